/-
  Several texts in one: HadB, RPool1, RPool2, RyWk1, RyLeaf.
-/
import Derived.Test.YtijooajhjcfneaaGreatG13
namespace Go.Proofs.YtijooajhjcfneaaGreat
open Go.RowKit

theorem Pl.box {S : Nat → Prop} {w w' : World} {q p F first : Nat} {Fr : Nat → Bool} {V : Nat → Nat} (h : Pl S w q p F first Fr V) (c : Chg (fun _ => False) w w') (hn : w.heap.size < w'.heap.size) : Pl (fun k => S k ∨ k = w.heap.size) w' q p F first Fr V := by
  obtain ⟨b, o, t, ht, hp, hB, hS⟩ := h
  have l0 := hp.lt
  refine ⟨b, o, t, ht, hp.chg c (fun _ _ h => h), fun k a b => ?_, fun k a => ?_⟩
  · rcases b with b | b
    · exact hB k a b
    · have := l0 k a; omega
  · rcases a with a | a
    · have := hS k a; omega
    · omega
/-- what changes among the blocks of S only -/
theorem Pl.nothing' {S S' : Nat → Prop} {w w' : World} {q p F first : Nat} {Fr : Nat → Bool} {V : Nat → Nat} (h : Pl S w q p F first Fr V) (c : Chg S' w w') (hs : ∀ k, S' k → S k) : Pl S w' q p F first Fr V := by
  obtain ⟨b, o, t, ht, hp, hB, hS⟩ := h
  exact ⟨b, o, t, ht, hp.chg c (fun k a b => hB k a (hs k b)), hB, fun k h => Nat.lt_of_lt_of_le (hS k h) c.size⟩
abbrev BoT : TypeId := 4
theorem Tryz.infoBo : (Tryz.prog.info? 4).map (fun i => (i.zero, i.size, i.bytes)) = some (some (.bool false), 1, 1) := by kernel_rfl
def falses (n : Nat) : Array Value := madeCells #[.bool false] n
theorem falses_get (n i : Nat) (h : i < n) : (falses n)[i]? = some (.bool false) := by
  unfold falses madeCells
  simp [h, Nat.mod_one]
theorem make_bools (W : World) (n : Nat) (hn : n ≤ 16777216) : (Instr.makeSlice 54 (.int .i64 (n : Int)) (.int .i64 (n : Int))).run Tryz.prog W = .ok (.slice (some ⟨W.heap.size, 0, none⟩) n n) (W.alloc (.cells (falses n) BoT)) := by
  obtain ⟨i0, hi, hz0, hz1, hz2⟩ := info_parts Tryz.infoBo
  have h := run_make (P := Tryz.prog) W 54 BoT i0 (.bool false) Tryz.underlying54 hi hz0 .i64 .i64 (n : Int) (n : Int) (by omega) (Int.le_refl _) (by rw [hz2]; omega) (by omega)
  rw [hz1, Nat.mul_one] at h
  exact h

/-- the row of bools: which frames were taken -/
def Had (w : World) (hd n : Nat) (f : Nat → Bool) : Prop := ∃ cs : Array Value, Blk w hd cs BoT ∧ cs.size = n ∧ ∀ i, i < n → cs[i]? = some (.bool (f i))
theorem Had.set {w : World} {hd n i : Nat} {f : Nat → Bool} (h : Had w hd n f) (hi : i < n) (v : Bool) : Had (w.setCell ⟨hd, i, none⟩ (.bool v)) hd n (setF f i v) := by
  obtain ⟨cs, hb, hs, hv⟩ := h
  refine ⟨_, hb.set i _, by simpa using hs, fun j hj => ?_⟩
  unfold setF
  by_cases e : j = i
  · subst e; rw [if_pos rfl]; simp [hs, hj]
  · rw [if_neg e, Array.getElem?_setIfInBounds_ne (by omega)]; exact hv j hj
theorem Had.chg {S : Nat → Prop} {w w' : World} {hd n : Nat} {f : Nat → Bool} (h : Had w hd n f) (c : Chg S w w') (hn : ¬ S hd) : Had w' hd n f := by
  obtain ⟨cs, hb, r⟩ := h
  exact ⟨cs, c.blk hb hn, r⟩
theorem Had.congr {w : World} {hd n : Nat} {f f' : Nat → Bool} (h : Had w hd n f) (e : ∀ i, i < n → f i = f' i) : Had w hd n f' := by
  obtain ⟨cs, hb, hs, hv⟩ := h
  exact ⟨cs, hb, hs, fun i hi => by rw [← e i hi]; exact hv i hi⟩
theorem Had.cell {w : World} {hd n : Nat} {f : Nat → Bool} (h : Had w hd n f) (i : Nat) (hi : i < n) : w.cell? ⟨hd, i, none⟩ = some (.bool (f i)) := by
  obtain ⟨cs, hb, _, hv⟩ := h
  exact hb.cellv i _ (hv i hi)
theorem Had.free {w : World} {hd n : Nat} {f : Nat → Bool} (h : Had w hd n f) (i : Nat) : w.frozen? ⟨hd, i, none⟩ = false := by
  obtain ⟨cs, hb, _⟩ := h
  exact hb.free i

end Go.Proofs.YtijooajhjcfneaaGreat

namespace Go.Proofs.YtijooajhjcfneaaGreat
open Go.RowKit

abbrev RpT : TypeId := 56
structure RPool (w : World) (rq hd r g F first : Nat) (Is : Nat → Bool) (V : Nat → Nat) (t : Nat) : Prop where
  mem : RM w r g F V t
  blk : Blk w rq #[.pointer (some ⟨r, 0, none⟩), .int .i64 first, .slice (some ⟨hd, 0, none⟩) F F] RpT
  had : Had w hd F Is
  a1 : rq ≠ hd
  a2 : rq ≠ r
  a3 : rq ≠ g
  a4 : hd ≠ r
  a5 : hd ≠ g
  le : first ≤ F
def RpOwn (rq hd r g : Nat) (k : Nat) : Prop := k = rq ∨ k = hd ∨ k = r ∨ k = g
def RpK (w : World) (rq hd r g F first : Nat) (Is : Nat → Bool) (V : Nat → Nat) (t : Nat) (v : Value) (e : Ending) (w' : World) : Prop := e = .returned v ∧ RPool w' rq hd r g F first Is V t ∧ Chg (RpOwn rq hd r g) w w'
theorem Had.lt {w : World} {hd n : Nat} {f : Nat → Bool} (h : Had w hd n f) : hd < w.heap.size := by
  obtain ⟨cs, hb, _⟩ := h
  exact hb.lt
theorem RPool.chg {S : Nat → Prop} {w w' : World} {rq hd r g F first t : Nat} {Is : Nat → Bool} {V : Nat → Nat} (h : RPool w rq hd r g F first Is V t) (c : Chg S w w') (hn : ∀ k, RpOwn rq hd r g k → ¬ S k) : RPool w' rq hd r g F first Is V t :=
  ⟨h.mem.chg c (hn _ (.inr (.inr (.inl rfl)))) (hn _ (.inr (.inr (.inr rfl)))), c.blk h.blk (hn _ (.inl rfl)), h.had.chg c (hn _ (.inr (.inl rfl))), h.a1, h.a2, h.a3, h.a4, h.a5, h.le⟩
theorem RPool.lt {w : World} {rq hd r g F first t : Nat} {Is : Nat → Bool} {V : Nat → Nat} (h : RPool w rq hd r g F first Is V t) : ∀ k, RpOwn rq hd r g k → k < w.heap.size := by
  rintro k (rfl | rfl | rfl | rfl)
  · exact h.blk.lt
  · exact h.had.lt
  · exact h.mem.blk.lt
  · exact h.mem.row.lt
/-- behind what is done to its memory -/
theorem RPool.worked {w w' : World} {rq hd r g F first t t' : Nat} {Is : Nat → Bool} {V V' : Nat → Nat} {v : Value} {e : Ending} (h : RPool w rq hd r g F first Is V t) (k : RmK w r g F t' V' v e w') : RpK w rq hd r g F first Is V' t' v e w' := by
  obtain ⟨he, hm, hc⟩ := k
  have h1 := h.a2; have h2 := h.a3; have h3 := h.a4; have h4 := h.a5
  exact ⟨he, ⟨hm, hc.blk h.blk (by omega), h.had.chg hc (by omega), h.a1, h.a2, h.a3, h.a4, h.a5, h.le⟩, hc.mono (fun k a => by unfold RpOwn; omega)⟩
/-- behind a bool's turn -/
theorem RPool.set {w : World} {rq hd r g F first t i : Nat} {Is : Nat → Bool} {V : Nat → Nat} (h : RPool w rq hd r g F first Is V t) (hi : i < F) (v : Bool) :
    RPool (w.setCell ⟨hd, i, none⟩ (.bool v)) rq hd r g F first (setF Is i v) V t ∧ Chg (RpOwn rq hd r g) w (w.setCell ⟨hd, i, none⟩ (.bool v)) := by
  have c : Chg (fun k => k = hd) w (w.setCell ⟨hd, i, none⟩ (.bool v)) := (Chg.refl _ _).setCell _ _ (.inl rfl)
  have h1 := h.a1; have h3 := h.a4; have h4 := h.a5
  exact ⟨⟨h.mem.chg c (by omega) (by omega), c.blk h.blk (by omega), h.had.set hi v, h.a1, h.a2, h.a3, h.a4, h.a5, h.le⟩, c.mono (fun k a => .inr (.inl a))⟩
theorem RpK.after {w w1 w2 : World} {rq hd r g F first t : Nat} {Is : Nat → Bool} {V : Nat → Nat} {v : Value} {e : Ending} (c : Chg (RpOwn rq hd r g) w w1) (k : RpK w1 rq hd r g F first Is V t v e w2) : RpK w rq hd r g F first Is V t v e w2 := ⟨k.1, k.2.1, c.trans k.2.2⟩

set_option maxRecDepth 100000 in
set_option maxHeartbeats 800000 in
theorem rp_taken (w : World) (rq hd r g F first t : Nat) (hF : F ≤ 256) (Is : Nat → Bool) (V : Nat → Nat) (h : RPool w rq hd r g F first Is V t) (f : Int) :
    Calls Tryz.prog 63 #[.pointer (some ⟨rq, 0, none⟩), .int .i64 f] w fun e w' => e = .returned (.bool (decide ((first : Int) ≤ f ∧ f < (F : Int)) && Is f.toNat)) ∧ w = w' := by
  have c1 : w.cell? ⟨rq, 1, none⟩ = some (.int .i64 first) := h.blk.cellv 1 _ rfl
  have c2 : w.cell? ⟨rq, 2, none⟩ = some (.slice (some ⟨hd, 0, none⟩) F F) := h.blk.cellv 2 _ rfl
  by_cases h1 : (first : Int) ≤ f
  · have d1 : decide ((first : Int) ≤ f) = true := decide_eq_true h1
    by_cases h2 : f < (F : Int)
    · have d2 : decide (f < (F : Int)) = true := decide_eq_true h2
      obtain ⟨j, rfl⟩ := Int.eq_ofNat_of_zero_le (show 0 ≤ f by omega)
      have cj := h.had.cell j (by omega)
      have d3 : j < F := by omega
      rw [show decide ((first : Int) ≤ (j : Int) ∧ (j : Int) < (F : Int)) = true from decide_eq_true ⟨h1, h2⟩, Int.toNat_natCast]
      generalize Is j = b at *
      clear h hF
      go_enter Tryz.func63, Tryz.ntmps63
      go_wp2_with fail
      go_ret
      exact ⟨by simp, rfl⟩
    · have d2 : decide (f < (F : Int)) = false := decide_eq_false h2
      rw [show decide ((first : Int) ≤ f ∧ f < (F : Int)) = false from decide_eq_false (by omega)]
      clear h hF
      go_enter Tryz.func63, Tryz.ntmps63
      go_wp2_with fail
      go_ret
      exact ⟨by simp, rfl⟩
  · have d1 : decide ((first : Int) ≤ f) = false := decide_eq_false h1
    rw [show decide ((first : Int) ≤ f ∧ f < (F : Int)) = false from decide_eq_false (by omega)]
    clear h hF
    go_enter Tryz.func63, Tryz.ntmps63
    go_wp2_with fail
    go_ret
    exact ⟨by simp, rfl⟩

set_option maxRecDepth 100000 in
set_option maxHeartbeats 800000 in
theorem rp_left (w : World) (rq hd r g F first t : Nat) (hF : F ≤ 256) (Is : Nat → Bool) (V : Nat → Nat) (h : RPool w rq hd r g F first Is V t) :
    Calls Tryz.prog 17 #[.pointer (some ⟨rq, 0, none⟩)] w fun e w' => e = .returned (.int .i64 (cnt (fun f => !Is f) first (F - first) : Nat)) ∧ w = w' := by
  have c1 : w.cell? ⟨rq, 1, none⟩ = some (.int .i64 first) := h.blk.cellv 1 _ rfl
  have c2 : w.cell? ⟨rq, 2, none⟩ = some (.slice (some ⟨hd, 0, none⟩) F F) := h.blk.cellv 2 _ rfl
  have HH := Lib.hid h.had
  have hle := h.le
  clear h
  go_enter Tryz.func17, Tryz.ntmps17
  go_wp2_with fail
  go_loop [3, 4] (fun m i => ∃ k : Nat, first ≤ k ∧ k ≤ F ∧ i = .int .i64 k ∧ Hid (m = .int .i64 (cnt (fun f => !Is f) first (k - first) : Nat))) (fun _ i => F - (intOf i).toNat)
  case atStart => exact ⟨first, Nat.le_refl _, hle, rfl, Lib.hid (by simp [cnt])⟩
  obtain ⟨k, hk1, hk2, rfl, HM⟩ := hrel
  obtain rfl := HM.out
  clear HM
  have hcl := cnt_le (fun f => !Is f) first (k - first)
  by_cases hlt : k < F
  · have HS := Lib.hid (show cnt (fun f => !Is f) first (k + 1 - first) = cnt (fun f => !Is f) first (k - first) + (if (!Is k) = true then 1 else 0) from by
      rw [show k + 1 - first = (k - first) + 1 from by omega, cnt, show first + (k - first) = k from by omega])
    have ck := HH.out.cell k hlt
    have d1 : (k : Int) < (F : Int) := by omega
    generalize Is k = b at *
    generalize cnt (fun f => !Is f) first (k - first) = c at *
    have q1 : wrap64 ((c : Int) + 1) = (c : Int) + 1 := by unfold wrap64; omega
    cases b
    · go_wp2_with fail
      exact ⟨⟨k + 1, by omega, by omega, by go_num, Lib.hid (by rw [HS.out]; simp)⟩, by simp [intOf]; omega⟩
    · go_wp2_with fail
      exact ⟨⟨k + 1, by omega, by omega, by go_num, Lib.hid (by rw [HS.out]; simp)⟩, by simp [intOf]; omega⟩
  · obtain rfl : k = F := by omega
    generalize hcc : cnt (fun f => !Is f) first (k - first) = c at *
    have HCC := Lib.hid hcc; clear hcc
    go_wp2_with fail
    go_ret
    exact ⟨by rw [HCC.out]; rfl, rfl⟩
end Go.Proofs.YtijooajhjcfneaaGreat

namespace Go.Proofs.YtijooajhjcfneaaGreat
open Go.RowKit

set_option maxRecDepth 100000 in
set_option maxHeartbeats 800000 in
theorem rp_new_no (w : World) (r g F t : Nat) (hF : F ≤ 256) (V : Nat → Nat) (h : RM w r g F V t) (first : Int) (hf : first < 0 ∨ (F : Int) < first) :
    Calls Tryz.prog 10 #[.pointer (some ⟨r, 0, none⟩), .int .i64 first] w fun e w' => e = .returned (.pointer none) ∧ w = w' := by
  have c0 : w.cell? ⟨r, 0, none⟩ = some (.slice (some ⟨g, 0, none⟩) (F * 256) (F * 256)) := h.blk.cellv 0 _ rfl
  have q0 : ((F : Int) * 256).tdiv 256 = (F : Int) := Int.mul_tdiv_cancel _ (by decide)
  have q1 : wrap64 (F : Int) = (F : Int) := by unfold wrap64; omega
  clear h
  by_cases h1 : first < 0
  · have d1 : decide (first < (0 : Int)) = true := decide_eq_true h1
    clear hf
    go_enter Tryz.func10, Tryz.ntmps10
    go_wp2_with fail
    go_ret
    exact ⟨rfl, rfl⟩
  · have d1 : decide (first < (0 : Int)) = false := decide_eq_false h1
    have h2 : (F : Int) < first := by omega
    have d2 : decide ((F : Int) < first) = true := decide_eq_true h2
    clear hf h1
    go_enter Tryz.func10, Tryz.ntmps10
    go_wp2_with fail
    go_ret
    exact ⟨rfl, rfl⟩

set_option maxRecDepth 100000 in
set_option maxHeartbeats 800000 in
theorem rp_new (w : World) (r g F first t : Nat) (hF : F ≤ 256) (V : Nat → Nat) (h : RM w r g F V t) (hf : first ≤ F) :
    Calls Tryz.prog 10 #[.pointer (some ⟨r, 0, none⟩), .int .i64 first] w fun e w' => e = .returned (.pointer (some ⟨w.heap.size + 1, 0, none⟩)) ∧ RPool w' (w.heap.size + 1) w.heap.size r g F first (fun _ => false) V t ∧ Chg (fun _ => False) w w' := by
  have c0 : w.cell? ⟨r, 0, none⟩ = some (.slice (some ⟨g, 0, none⟩) (F * 256) (F * 256)) := h.blk.cellv 0 _ rfl
  have q0 : ((F : Int) * 256).tdiv 256 = (F : Int) := Int.mul_tdiv_cancel _ (by decide)
  have q1 : wrap64 (F : Int) = (F : Int) := by unfold wrap64; omega
  have d1 : decide ((first : Int) < (0 : Int)) = false := decide_eq_false (by omega)
  have d2 : decide ((F : Int) < (first : Int)) = false := decide_eq_false (by omega)
  have d3 : ¬ F < first := by omega
  have hmb := fun W => make_bools W F (by omega)
  have HH := Lib.hid h
  clear h
  go_enter Tryz.func10, Tryz.ntmps10
  go_wp2_with fail
  go_ret
  have h := HH.out
  have l1 := h.blk.lt
  have l2 := h.row.lt
  have c : Chg (fun _ => False) w ((w.alloc (.cells (falses F) BoT)).alloc (.cells #[.pointer (some ⟨r, 0, none⟩), .int .i64 first, .slice (some ⟨w.heap.size, 0, none⟩) F F] RpT)) := ((Chg.refl _ w).alloc _).alloc _
  have hb := Blk.new (w.alloc (.cells (falses F) BoT)) #[.pointer (some ⟨r, 0, none⟩), .int .i64 first, .slice (some ⟨w.heap.size, 0, none⟩) F F] RpT
  rw [show (w.alloc (.cells (falses F) BoT)).heap.size = w.heap.size + 1 from by simp] at hb
  exact ⟨by simp, ⟨h.chg c (fun h => h) (fun h => h), hb, ⟨_, (Blk.new w _ _).alloc _, size_madeCells _ _, fun i hi => falses_get F i hi⟩, by omega, by omega, by omega, by omega, by omega, hf⟩, c⟩

set_option maxRecDepth 100000 in
set_option maxHeartbeats 800000 in
theorem rp_take_none (w : World) (rq hd r g F first t : Nat) (hF : F ≤ 256) (Is : Nat → Bool) (V : Nat → Nat) (h : RPool w rq hd r g F first Is V t) (hno : ∀ j, first ≤ j → j < F → Is j = true) :
    Calls Tryz.prog 13 #[.pointer (some ⟨rq, 0, none⟩)] w fun e w' => e = .returned (.tuple #[.int .i64 0, .int .i64 4]) ∧ w = w' := by
  have c1 : w.cell? ⟨rq, 1, none⟩ = some (.int .i64 first) := h.blk.cellv 1 _ rfl
  have c2 : w.cell? ⟨rq, 2, none⟩ = some (.slice (some ⟨hd, 0, none⟩) F F) := h.blk.cellv 2 _ rfl
  have HH := Lib.hid h.had
  have HN := Lib.hid hno
  have hle := h.le
  clear h hno
  go_enter Tryz.func13, Tryz.ntmps13
  go_wp2_with fail
  go_loop [4] (fun i => ∃ k : Nat, first ≤ k ∧ k ≤ F ∧ i = .int .i64 k) (fun i => F - (intOf i).toNat)
  case atStart => exact ⟨first, Nat.le_refl _, hle, rfl⟩
  obtain ⟨k, hk1, hk2, rfl⟩ := hrel
  by_cases hlt : k < F
  · have ck := HH.out.cell k hlt
    rw [HN.out k hk1 hlt] at ck
    have d1 : (k : Int) < (F : Int) := by omega
    go_wp2_with fail
    exact ⟨⟨k + 1, by omega, by omega, by go_num⟩, by simp [intOf]; omega⟩
  · obtain rfl : k = F := by omega
    go_wp2_with fail
    go_ret2
    exact ⟨rfl, rfl⟩

set_option maxRecDepth 100000 in
set_option maxHeartbeats 800000 in
theorem rp_take_some (w : World) (rq hd r g F first t : Nat) (hF : F ≤ 256) (Is : Nat → Bool) (V : Nat → Nat) (h : RPool w rq hd r g F first Is V t) (f : Nat) (hf1 : first ≤ f) (hf2 : f < F) (hfr : Is f = false) (hno : ∀ j, first ≤ j → j < f → Is j = true) :
    Calls Tryz.prog 13 #[.pointer (some ⟨rq, 0, none⟩)] w (RpK w rq hd r g F first (setF Is f true) (clV F V f) t (.tuple #[.int .i64 f, .int .i64 0])) := by
  have c1 : w.cell? ⟨rq, 1, none⟩ = some (.int .i64 first) := h.blk.cellv 1 _ rfl
  have c2 : w.cell? ⟨rq, 2, none⟩ = some (.slice (some ⟨hd, 0, none⟩) F F) := h.blk.cellv 2 _ rfl
  have HH := Lib.hid h.had
  have HN := Lib.hid hno
  have cj := h.had.cell f hf2
  rw [hfr] at cj
  have fj := h.had.free f
  obtain ⟨hs, hc⟩ := h.set hf2 true
  have c0 : (w.setCell ⟨hd, f, none⟩ (.bool true)).cell? ⟨rq, 0, none⟩ = some (.pointer (some ⟨r, 0, none⟩)) := hs.blk.cellv 0 _ rfl
  have HC := rm_clear _ r g F t hF V hs.mem (f : Int)
  rw [show cdF F (f : Int) = 0 from by unfold cdF; rw [if_pos (by omega)]] at HC
  have HC := Lib.hid HC
  have HS := Lib.hid hs; have CC := Lib.hid hc
  clear h hno hs hc hfr
  go_enter Tryz.func13, Tryz.ntmps13
  go_wp2_with fail
  go_loop [4] (fun i => ∃ k : Nat, first ≤ k ∧ k ≤ f ∧ i = .int .i64 k) (fun i => F - (intOf i).toNat)
  case atStart => exact ⟨first, Nat.le_refl _, hf1, rfl⟩
  obtain ⟨k, hk1, hk2, rfl⟩ := hrel
  have d1 : (k : Int) < (F : Int) := by omega
  have d2 : k < F := by omega
  by_cases hlt : k < f
  · have ck := HH.out.cell k (by omega)
    rw [HN.out k hk1 hlt] at ck
    clear cj c0
    go_wp2_with fail
    exact ⟨⟨k + 1, by omega, by omega, by go_num⟩, by simp [intOf]; omega⟩
  · obtain rfl : k = f := by omega
    go_wp2_with fail
    refine HC.out.mono ?_
    rintro e w2 ⟨rfl, hk⟩
    have HK := Lib.hid (HS.out.worked (v := .tuple #[.int .i64 k, .int .i64 0]) (e := .returned (.tuple #[.int .i64 k, .int .i64 0])) ⟨rfl, hk⟩); clear hk
    go_wp2_with fail
    go_ret2
    exact RpK.after CC.out HK.out
end Go.Proofs.YtijooajhjcfneaaGreat

namespace Go.Proofs.YtijooajhjcfneaaGreat
open Go.RowKit

theorem rw_frame (w : World) (e : Nat) (he : e < 18446744073709551616) :
    Calls Tryz.prog 69 #[.int .u64 e] w fun r w' => r = .returned (.int .u64 (e / 1024 : Nat)) ∧ w = w' := by
  have q1 : IntKind.u64.wrap ((e : Int) / 1024) = (e : Int) / 1024 := by rw [u64_wrap]; omega
  go_enter Tryz.func69, Tryz.ntmps69
  go_wp2_with fail
  go_ret
  exact ⟨by simp, rfl⟩
/-- the document's memory, that owns none of the blocks of S, however often touched -/
def RX (S : Nat → Prop) (w : World) (r F : Nat) (U : Nat → Nat) : Prop := ∃ g u, u < 18446744073709551616 ∧ RM w r g F U u ∧ ¬ S r ∧ ¬ S g ∧ ∀ k, S k → k < w.heap.size
def StepR (S : Nat → Prop) (w : World) (r F : Nat) (U : Nat → Nat) (v : Value) (e : Ending) (w' : World) : Prop := e = .returned v ∧ RX S w' r F U ∧ Chg (fun k => ¬ S k) w w'
theorem RX.right {S : Nat → Prop} {w w' : World} {r g F u' : Nat} {U' : Nat → Nat} {v : Value} {e : Ending} (hu : u' < 18446744073709551616) (hr : ¬ S r) (hg : ¬ S g) (hS : ∀ k, S k → k < w.heap.size) (k : RmK w r g F u' U' v e w') : StepR S w r F U' v e w' := by
  obtain ⟨he, hm, hc⟩ := k
  exact ⟨he, ⟨g, u', hu, hm, hr, hg, fun k h => Nat.lt_of_lt_of_le (hS k h) hc.size⟩, hc.mono (fun k h => by rcases h with rfl | rfl <;> assumption)⟩
theorem RX.nothing {S : Nat → Prop} {w w' : World} {r F : Nat} {U : Nat → Nat} (h : RX S w r F U) (c : Chg (fun _ => False) w w') : RX S w' r F U := by
  obtain ⟨g, u, hu, hm, hr, hg, hS⟩ := h
  exact ⟨g, u, hu, hm.chg c (fun h => h) (fun h => h), hr, hg, fun k h => Nat.lt_of_lt_of_le (hS k h) c.size⟩
theorem RX.small {S : Nat → Prop} {w : World} {r F : Nat} {U : Nat → Nat} (h : RX S w r F U) : ∀ i, U i < 256 := by
  obtain ⟨g, u, hu, hm, hr, hg, hS⟩ := h
  exact hm.small
theorem RX.lt {S : Nat → Prop} {w : World} {r F : Nat} {U : Nat → Nat} (h : RX S w r F U) : ∀ k, S k → k < w.heap.size := by
  obtain ⟨g, u, hu, hm, hr, hg, hS⟩ := h
  exact hS
theorem StepR.again {S : Nat → Prop} {w w1 w2 : World} {r F : Nat} {U : Nat → Nat} {v : Value} {e : Ending} (c : Chg (fun k => ¬ S k) w w1) (h : StepR S w1 r F U v e w2) : StepR S w r F U v e w2 := ⟨h.1, h.2.1, c.trans h.2.2⟩
theorem RX.fields {S : Nat → Prop} {w : World} {r F : Nat} {U : Nat → Nat} (h : RX S w r F U) :
    ∃ g u, u < 18446744073709551616 ∧ w.cell? ⟨r, 0, none⟩ = some (.slice (some ⟨g, 0, none⟩) (F * 256) (F * 256)) ∧ w.cell? ⟨r, 1, none⟩ = some (.int .u64 (u : Nat)) ∧ w.frozen? ⟨r, 1, none⟩ = false ∧ (∀ cap, (convert 51 9 (.slice (some ⟨g, 0, none⟩) (F * 256) cap)).run Tryz.prog w = .ok (.string (memStr U 0 (F * 256))) w) ∧
      (∀ i, i < F * 256 → w.cell? ⟨g, i, none⟩ = some (.int .u8 (U i : Nat))) ∧ ∀ u', u' < 18446744073709551616 → RX S (w.setCell ⟨r, 1, none⟩ (.int .u64 (u' : Nat))) r F U ∧ Chg (fun k => ¬ S k) w (w.setCell ⟨r, 1, none⟩ (.int .u64 (u' : Nat))) := by
  obtain ⟨g, u, hu, hm, hr, hg, hS⟩ := h
  refine ⟨g, u, hu, hm.blk.cellv 0 _ rfl, hm.blk.cellv 1 _ rfl, hm.blk.free 1, fun cap => row_string w g (F * 256) U hm.row 0 0 (F * 256) cap (fun _ => rfl) (by omega), fun i hi => hm.cellg i hi, fun u' hu' => ?_⟩
  obtain ⟨h3, c⟩ := hm.touched (t' := u')
  exact ⟨⟨g, u', hu', h3, hr, hg, fun k h => Nat.lt_of_lt_of_le (hS k h) c.size⟩, c.mono (fun k h => by subst h; exact hr)⟩
theorem rx_load {S : Nat → Prop} {w : World} {r F : Nat} {U : Nat → Nat} (h : RX S w r F U) (hF : F ≤ 256) (a : Nat) (ha : a < 18446744073709551616) (n : Int) (x : Int) (hx : x = (a : Int)) :
    Calls Tryz.prog 74 #[.pointer (some ⟨r, 0, none⟩), .int .u64 x, .int .i64 n] w (StepR S w r F U (.tuple #[.int .u64 (ldV F U a n : Nat), .int .i64 (cdL F a n)])) := by
  obtain ⟨g, u, hu, hm, hr, hg, hS⟩ := h
  subst hx
  exact (rm_load w r g F u hF hu U hm a ha n).mono fun _ _ k => RX.right (tc_lt' _ _ _ _ hu) hr hg hS k
theorem rx_load8 {S : Nat → Prop} {w : World} {r F : Nat} {U : Nat → Nat} (h : RX S w r F U) (hF : F ≤ 256) (a : Nat) (ha : a + 8 ≤ F * 256) (x : Int) (hx : x = (a : Int)) :
    Calls Tryz.prog 74 #[.pointer (some ⟨r, 0, none⟩), .int .u64 x, .int .i64 8] w (StepR S w r F U (.tuple #[.int .u64 (entV U a : Nat), .int .i64 0])) := by
  have k := rx_load h hF a (by omega) 8 x hx
  rw [(ldV8 F U a ha).1, (ldV8 F U a ha).2] at k
  exact k
theorem rx_store {S : Nat → Prop} {w : World} {r F : Nat} {U : Nat → Nat} (h : RX S w r F U) (hF : F ≤ 256) (a : Nat) (ha : a < 18446744073709551616) (n : Int) (v : Nat) (hv : v < 18446744073709551616) (x : Int) (hx : x = (a : Int)) :
    Calls Tryz.prog 64 #[.pointer (some ⟨r, 0, none⟩), .int .u64 x, .int .i64 n, .int .u64 v] w (StepR S w r F (stV F U a n v) (.int .i64 (cdL F a n))) := by
  obtain ⟨g, u, hu, hm, hr, hg, hS⟩ := h
  subst hx
  exact (rm_store w r g F u hF hu U hm a ha n v hv).mono fun _ _ k => RX.right (tc_lt' _ _ _ _ hu) hr hg hS k
theorem rx_copy {S : Nat → Prop} {w : World} {r F : Nat} {U : Nat → Nat} (h : RX S w r F U) (hF : F ≤ 256) (a b : Int) (hb : 0 ≤ b) :
    Calls Tryz.prog 33 #[.pointer (some ⟨r, 0, none⟩), .int .i64 a, .int .i64 b] w (StepR S w r F (cpV F U a b) (.int .i64 (cdC F a b))) := by
  obtain ⟨g, u, hu, hm, hr, hg, hS⟩ := h
  exact (rm_copy w r g F u hF U hm a b hb).mono fun _ _ k => RX.right hu hr hg hS k

theorem rw_root (S : Nat → Prop) (w : World) (r F : Nat) (U : Nat → Nat) (h : RX S w r F U) (hF : F ≤ 256) (root : Int) :
    Calls Tryz.prog 66 #[.pointer (some ⟨r, 0, none⟩), .int .i64 root] w fun e w' => e = .returned (.bool (decide (0 ≤ root ∧ root < (F : Int)))) ∧ w = w' := by
  obtain ⟨g, _, _, c0, c1, _⟩ := h.fields
  have q0 : ((F : Int) * 256).tdiv 256 = (F : Int) := Int.mul_tdiv_cancel _ (by decide)
  have q1 : wrap64 (F : Int) = (F : Int) := by unfold wrap64; omega
  clear h c1
  by_cases h0 : 0 ≤ root
  · have d0 : decide ((0 : Int) ≤ root) = true := decide_eq_true h0
    by_cases h1 : root < (F : Int)
    · have d1 : decide (root < (F : Int)) = true := decide_eq_true h1
      rw [decide_eq_true (show 0 ≤ root ∧ root < (F : Int) from ⟨h0, h1⟩)]
      go_enter Tryz.func66, Tryz.ntmps66
      go_wp2_with fail
      go_ret
      exact ⟨rfl, rfl⟩
    · have d1 : decide (root < (F : Int)) = false := decide_eq_false h1
      rw [decide_eq_false (show ¬ (0 ≤ root ∧ root < (F : Int)) from fun h => h1 h.2)]
      go_enter Tryz.func66, Tryz.ntmps66
      go_wp2_with fail
      go_ret
      exact ⟨rfl, rfl⟩
  · have d0 : decide ((0 : Int) ≤ root) = false := decide_eq_false h0
    rw [decide_eq_false (show ¬ (0 ≤ root ∧ root < (F : Int)) from fun h => h0 h.1)]
    go_enter Tryz.func66, Tryz.ntmps66
    go_wp2_with fail
    go_ret
    exact ⟨rfl, rfl⟩

/-- the part: so many rounds of dividing by 32 -/
theorem rw_part (w : World) (at_ : Nat) (h : at_ < 8388608) (l : Nat) (hl : l ≤ 2) :
    Calls Tryz.prog 92 #[.int .u64 at_, .int .i64 l] w fun e w' => e = .returned (.int .i64 (at_ / 256 / 32 ^ l % 32 : Nat)) ∧ w = w' := by
  have d1 : decide ((l : Int) < (0 : Int)) = false := decide_eq_false (by omega)
  have d2 : decide ((2 : Int) < (l : Int)) = false := decide_eq_false (by omega)
  have d3 : decide ((8388608 : Int) ≤ (at_ : Int)) = false := decide_eq_false (by omega)
  have d4 : ¬ 2 < l := by omega
  have d5 : ¬ 8388608 ≤ at_ := by omega
  have q0 : IntKind.u64.wrap ((at_ : Int) / 256) = (at_ : Int) / 256 := by rw [u64_wrap]; omega
  obtain ⟨n, hn⟩ : ∃ n, n = at_ / 256 := ⟨_, rfl⟩
  have q1 : (at_ : Int) / 256 = (n : Int) := by omega
  rw [← hn]
  have HN := Lib.hid (show n < 32768 by omega)
  clear hn
  obtain ⟨z, hz⟩ : ∃ z, z = n / 32 ^ l % 32 := ⟨_, rfl⟩
  rw [← hz]
  have HZ0 := Lib.hid hz
  clear hz
  go_enter Tryz.func92, Tryz.ntmps92
  go_wp2_with fail
  go_loop [5, 6] (fun x i => ∃ k y : Nat, k ≤ l ∧ i = .int .i64 k ∧ x = .int .u64 (y : Int) ∧ Hid (y = n / 32 ^ k)) (fun _ i => l - (intOf i).toNat)
  case atStart => exact ⟨0, n, Nat.zero_le _, rfl, rfl, Lib.hid (by simp)⟩
  obtain ⟨k, y, hk, rfl, rfl, HY⟩ := hrel
  have hy : y < 32768 := by rw [HY.out]; exact Nat.lt_of_le_of_lt (Nat.div_le_self _ _) HN.out
  have q2 : IntKind.u64.wrap ((y : Int) / 32) = (y : Int) / 32 := by rw [u64_wrap]; omega
  by_cases hlt : k < l
  · have HS := Lib.hid (show y / 32 = n / 32 ^ (k + 1) from by rw [HY.out, Nat.pow_succ, Nat.div_div_eq_div_mul])
    go_wp2_with fail
    exact ⟨⟨k + 1, y / 32, by omega, by go_num, by go_num, HS⟩, by simp [intOf]; omega⟩
  · obtain rfl : k = l := by omega
    have q3 : IntKind.u64.wrap ((y : Int) % 32) = (y : Int) % 32 := by rw [u64_wrap]; omega
    have q4 : wrap64 ((y : Int) % 32) = (y : Int) % 32 := by unfold wrap64; omega
    have HZ := Lib.hid (show (z : Int) = (y : Int) % 32 from by rw [HZ0.out, ← HY.out]; omega)
    clear HY
    go_wp2_with fail
    go_ret
    exact ⟨by rw [HZ.out]; rfl, rfl⟩

set_option maxRecDepth 100000 in
set_option maxHeartbeats 800000 in
theorem rw_word (S : Nat → Prop) (w : World) (r F : Nat) (U : Nat → Nat) (h : RX S w r F U) (hF : F ≤ 256) (tb k : Nat) (ht : tb < F) (hk : k < 32) :
    Calls Tryz.prog 68 #[.pointer (some ⟨r, 0, none⟩), .int .u64 tb, .int .i64 k] w (StepR S w r F U (.int .u64 (entV U (tb * 256 + 8 * k) : Nat))) := by
  have hfit : tb * 256 + 8 * k + 8 ≤ F * 256 := by omega
  have L := rx_load8 h hF (tb * 256 + 8 * k) hfit _ rfl
  rw [show ((tb * 256 + 8 * k : Nat) : Int) = (tb : Int) * 256 + 8 * (k : Int) from by omega] at L
  generalize entV U (tb * 256 + 8 * k) = y at *
  have q1 : IntKind.u64.wrap ((tb : Int) * 256) = (tb : Int) * 256 := by rw [u64_wrap]; omega
  have q2 : wrap64 (8 * (k : Int)) = 8 * (k : Int) := by unfold wrap64; omega
  have q3 : IntKind.u64.wrap (8 * (k : Int)) = 8 * (k : Int) := by rw [u64_wrap]; omega
  have q4 : IntKind.u64.wrap ((tb : Int) * 256 + 8 * (k : Int)) = (tb : Int) * 256 + 8 * (k : Int) := by rw [u64_wrap]; omega
  have HL := Lib.hid L
  clear L h
  go_enter Tryz.func68, Tryz.ntmps68
  go_wp2_with fail
  refine HL.out.mono ?_
  rintro e w1 ⟨rfl, m1, c1⟩
  obtain ⟨g, u1, hu1, _, cc, cf, _, _, hset⟩ := m1.fields
  obtain ⟨u2, hu2⟩ : ∃ u2 : Nat, (u2 : Int) = IntKind.u64.wrap ((u1 : Int) - 1) ∧ u2 < 18446744073709551616 := by
    refine ⟨(IntKind.u64.wrap ((u1 : Int) - 1)).toNat, ?_, ?_⟩
    · rw [u64_wrap]; omega
    · rw [u64_wrap]; omega
  have hw := hset u2 hu2.2
  have q5 : IntKind.u64.wrap ((u1 : Int) - 1) = (u2 : Int) := hu2.1.symm
  have HW := Lib.hid hw; have C1 := Lib.hid c1
  clear m1 hw c1 hu2 hset
  go_wp2_with fail
  go_ret
  exact ⟨rfl, HW.out.1, C1.out.trans HW.out.2⟩
end Go.Proofs.YtijooajhjcfneaaGreat

namespace Go.Proofs.YtijooajhjcfneaaGreat
open Go.RowKit

set_option maxRecDepth 100000 in
theorem rleaf_root (S : Nat → Prop) (w : World) (r F : Nat) (U : Nat → Nat) (h : RX S w r F U) (hF : F ≤ 256) (root : Int) (hr : root < 0 ∨ (F : Int) ≤ root) (at_ : Int) :
    Calls Tryz.prog 67 #[.pointer (some ⟨r, 0, none⟩), .int .i64 root, .int .u64 at_] w fun e w' => e = .returned (errV 1) ∧ w = w' := by
  have HR := rw_root S w r F U h hF root
  rw [decide_eq_false (show ¬ (0 ≤ root ∧ root < (F : Int)) by omega)] at HR
  have HR := Lib.hid HR
  clear h hr
  unfold errV
  go_enter Tryz.func67, Tryz.ntmps67
  go_wp2_with fail
  refine HR.out.mono ?_
  rintro e w' ⟨rfl, rfl⟩
  go_wp2_with fail
  go_ret2
  exact ⟨rfl, rfl⟩
set_option maxRecDepth 100000 in
theorem rleaf_beyond (S : Nat → Prop) (w : World) (r F : Nat) (U : Nat → Nat) (h : RX S w r F U) (hF : F ≤ 256) (root : Nat) (hr : root < F) (at_ : Nat) (ha : 8388608 ≤ at_) :
    Calls Tryz.prog 67 #[.pointer (some ⟨r, 0, none⟩), .int .i64 root, .int .u64 at_] w fun e w' => e = .returned (errV 3) ∧ w = w' := by
  have HR := rw_root S w r F U h hF root
  rw [decide_eq_true (show (0 : Int) ≤ root ∧ (root : Int) < (F : Int) by omega)] at HR
  have HR := Lib.hid HR
  have d4 : decide ((8388608 : Int) ≤ (at_ : Int)) = true := decide_eq_true (by omega)
  clear h hr
  unfold errV
  go_enter Tryz.func67, Tryz.ntmps67
  go_wp2_with fail
  refine HR.out.mono ?_
  rintro e w' ⟨rfl, rfl⟩
  go_wp2_with fail
  go_ret2
  exact ⟨rfl, rfl⟩

theorem div262144 (x : Nat) : x / 256 / 32 ^ 2 = x / 262144 := Nat.div_div_eq_div_mul x 256 (32 ^ 2)
theorem div8192 (x : Nat) : x / 256 / 32 ^ 1 = x / 8192 := Nat.div_div_eq_div_mul x 256 (32 ^ 1)
theorem rw_part2 (w : World) (at_ : Nat) (h : at_ < 8388608) :
    Calls Tryz.prog 92 #[.int .u64 at_, .int .i64 2] w fun e w' => e = .returned (.int .i64 (at_ / 262144 % 32 : Nat)) ∧ w = w' := by
  have k := rw_part w at_ h 2 (by omega)
  rw [div262144] at k
  exact k
theorem rw_part1 (w : World) (at_ : Nat) (h : at_ < 8388608) :
    Calls Tryz.prog 92 #[.int .u64 at_, .int .i64 1] w fun e w' => e = .returned (.int .i64 (at_ / 8192 % 32 : Nat)) ∧ w = w' := by
  have k := rw_part w at_ h 1 (by omega)
  rw [div8192] at k
  exact k
theorem rw_part0 (w : World) (at_ : Nat) (h : at_ < 8388608) :
    Calls Tryz.prog 92 #[.int .u64 at_, .int .i64 0] w fun e w' => e = .returned (.int .i64 (at_ / 256 % 32 : Nat)) ∧ w = w' := by
  have k := rw_part w at_ h 0 (by omega)
  rw [Nat.pow_zero, Nat.div_one] at k
  exact k
set_option maxRecDepth 100000 in
set_option maxHeartbeats 1600000 in
theorem rleaf_c1 (S : Nat → Prop) (w : World) (r F : Nat) (U : Nat → Nat) (h : RX S w r F U) (hF : F ≤ 256) (root : Nat) (hr : root < F) (at_ : Nat) (ha : at_ < 8388608) (c0' c1' c2' : Nat) (k0 : c0' < 32) (k1 : c1' < 32) (k2 : c2' < 32) (res : Option Nat)
    (P2 : ∀ W, Calls Tryz.prog 92 #[.int .u64 at_, .int .i64 2] W fun e w' => e = .returned (.int .i64 (c2' : Nat)) ∧ W = w')
    (P1 : ∀ W, Calls Tryz.prog 92 #[.int .u64 at_, .int .i64 1] W fun e w' => e = .returned (.int .i64 (c1' : Nat)) ∧ W = w')
    (P0 : ∀ W, Calls Tryz.prog 92 #[.int .u64 at_, .int .i64 0] W fun e w' => e = .returned (.int .i64 (c0' : Nat)) ∧ W = w')
    (hn : tbGo F (entV U (root * 256 + 8 * c2')) = none) (n1 : tbGo F (entV U (root * 256 + 8 * c2')) = none → res = none)
    (n2 : ∀ a, tbGo F (entV U (root * 256 + 8 * c2')) = some a → tbGo F (entV U (a * 256 + 8 * c1')) = none → res = none)
    (n3 : ∀ a b, tbGo F (entV U (root * 256 + 8 * c2')) = some a → tbGo F (entV U (a * 256 + 8 * c1')) = some b → res = some (b * 256 + 8 * c0')) :
    Calls Tryz.prog 67 #[.pointer (some ⟨r, 0, none⟩), .int .i64 root, .int .u64 at_] w (StepR S w r F U (lfVal res)) := by
  have HR := rw_root S w r F U h hF root
  rw [decide_eq_true (show (0 : Int) ≤ root ∧ (root : Int) < (F : Int) by omega)] at HR
  have WD := Lib.hid (fun W (H : RX S W r F U) tb k ht hk => rw_word S W r F U H hF tb k ht hk)
  have FE := Lib.hid (fun W e he => rw_frame W e he)
  obtain ⟨g, c0, _, _⟩ := (show ∃ g, w.cell? ⟨r, 0, none⟩ = some (.slice (some ⟨g, 0, none⟩) (F * 256) (F * 256)) ∧ True ∧ True by obtain ⟨g, _, _, a, _⟩ := h.fields; exact ⟨g, a, trivial, trivial⟩)
  have q0 : ((F : Int) * 256).tdiv 256 = (F : Int) := Int.mul_tdiv_cancel _ (by decide)
  have q1 : wrap64 (F : Int) = (F : Int) := by unfold wrap64; omega
  have qF : IntKind.u64.wrap (F : Int) = (F : Int) := by rw [u64_wrap]; omega
  have qr : IntKind.u64.wrap (root : Int) = (root : Int) := by rw [u64_wrap]; omega
  have d4 : decide ((8388608 : Int) ≤ (at_ : Int)) = false := decide_eq_false (by omega)
  have d5 : ¬ 8388608 ≤ at_ := by omega
  have N1 := Lib.hid n1; have N2 := Lib.hid n2; have N3 := Lib.hid n3
  clear n1 n2 n3
  have HX := Lib.hid h
  have HB := Lib.hid (And.intro hF (And.intro hr (And.intro k0 (And.intro k1 k2))))
  have P0 := Lib.hid P0; have P1 := Lib.hid P1; have P2 := Lib.hid P2; have HR := Lib.hid HR
  clear h ha hF hr k0 k1 k2
  have W0 := Lib.hid (WD.out w HX.out root c2' HB.out.2.1 HB.out.2.2.2.2)
  have hy0 := entV_lt U (root * 256 + 8 * c2')
  generalize hyy : entV U (root * 256 + 8 * c2') = y at *
  have HYY := Lib.hid hyy; have HY0 := Lib.hid hy0
  clear hyy hy0
  have w2y : IntKind.u64.wrap ((y : Int) / 2) = (y : Int) / 2 := by have := HY0.out; rw [u64_wrap]; omega
  have hgo : tbGo F y = if y % 2 = 0 ∨ y / 2 % 8 ≠ 0 ∨ F ≤ y / 1024 then none else some (y / 1024) := rfl
  have HGOy := Lib.hid hgo
  clear hgo
  by_cases e1 : y % 2 = 0
  · have hg : tbGo F y = none := by rw [HGOy.out, if_pos (.inl e1)]
    have hres := N1.out hg
    subst hres
    simp only [lfVal]
    have k1y : (y : Int) % 2 = 0 := by omega
    clear hg e1
    go_enter Tryz.func67, Tryz.ntmps67
    go_wp2_with fail
    refine HR.out.mono ?_
    rintro e w' ⟨rfl, rfl⟩
    go_wp2_with fail
    refine (P2.out w).mono ?_
    rintro e w' ⟨rfl, rfl⟩
    go_wp2_with fail
    refine W0.out.mono ?_
    rintro e w4 ⟨rfl, m4, c4⟩
    have M4 := Lib.hid (And.intro m4 c4); clear m4 c4
    go_wp2_with fail
    go_ret2
    exact ⟨rfl, M4.out⟩
  have e1' : y % 2 = 1 := by omega
  have k1y : (y : Int) % 2 = 1 := by omega
  by_cases e2 : y / 2 % 8 = 0
  · have k2y : (y : Int) / 2 % 8 = 0 := by omega
    have FYx := fun W => FE.out W y HY0.out
    by_cases e3 : F ≤ y / 1024
    · have hg : tbGo F y = none := by rw [HGOy.out, if_pos (.inr (.inr e3))]
      have hres := N1.out hg
      subst hres
      simp only [lfVal]
      generalize y / 1024 = fy at *
      have FY := Lib.hid FYx
      have d7y : decide ((F : Int) ≤ (fy : Int)) = true := decide_eq_true (by omega)
      clear hg e1 e1' e2 FYx
      go_enter Tryz.func67, Tryz.ntmps67
      go_wp2_with fail
      refine HR.out.mono ?_
      rintro e w' ⟨rfl, rfl⟩
      go_wp2_with fail
      refine (P2.out w).mono ?_
      rintro e w' ⟨rfl, rfl⟩
      go_wp2_with fail
      refine W0.out.mono ?_
      rintro e w4 ⟨rfl, m4, c4⟩
      have M4 := Lib.hid (And.intro m4 c4); clear m4 c4
      go_wp2_with fail
      refine (FY.out w4).mono ?_
      rintro e w' ⟨rfl, rfl⟩
      go_wp2_with fail
      go_ret2
      exact ⟨rfl, M4.out⟩
    · have hg : tbGo F y = some (y / 1024) := by rw [HGOy.out, if_neg (by rintro (h | h | h); exact e1 h; exact h e2; exact e3 h)]
      rw [hn] at hg; cases hg
  · have hg : tbGo F y = none := by rw [HGOy.out, if_pos (.inr (.inl e2))]
    have hres := N1.out hg
    subst hres
    simp only [lfVal]
    obtain ⟨hq, hhq⟩ : ∃ hq : Nat, hq = y / 2 := ⟨_, rfl⟩
    obtain ⟨zq, hzq⟩ : ∃ zq : Nat, zq = hq % 8 := ⟨_, rfl⟩
    have d6 : ((zq : Int) != 0) = true := by simp; omega
    have d6' : ¬ zq = 0 := by omega
    have w4 : IntKind.u64.wrap ((y : Int) / 2) = (hq : Int) := by rw [w2y]; omega
    have w5 : (hq : Int) % 8 = (zq : Int) := by omega
    have w6 : (hq : Int).tmod 8 = (zq : Int) := by rw [Int.tmod_eq_emod_of_nonneg (by omega)]; omega
    clear w2y hhq hzq e2
    clear hg e1 e1'
    go_enter Tryz.func67, Tryz.ntmps67
    go_wp2_with fail
    refine HR.out.mono ?_
    rintro e w' ⟨rfl, rfl⟩
    go_wp2_with fail
    refine (P2.out w).mono ?_
    rintro e w' ⟨rfl, rfl⟩
    go_wp2_with fail
    refine W0.out.mono ?_
    rintro e w4 ⟨rfl, m4, c4⟩
    have M4 := Lib.hid (And.intro m4 c4); clear m4 c4
    go_wp2_with fail
    go_ret2
    exact ⟨rfl, M4.out⟩

set_option maxRecDepth 100000 in
set_option maxHeartbeats 1600000 in
theorem rleaf_c2 (S : Nat → Prop) (w : World) (r F : Nat) (U : Nat → Nat) (h : RX S w r F U) (hF : F ≤ 256) (root : Nat) (hr : root < F) (at_ : Nat) (ha : at_ < 8388608) (c0' c1' c2' : Nat) (k0 : c0' < 32) (k1 : c1' < 32) (k2 : c2' < 32) (res : Option Nat)
    (P2 : ∀ W, Calls Tryz.prog 92 #[.int .u64 at_, .int .i64 2] W fun e w' => e = .returned (.int .i64 (c2' : Nat)) ∧ W = w')
    (P1 : ∀ W, Calls Tryz.prog 92 #[.int .u64 at_, .int .i64 1] W fun e w' => e = .returned (.int .i64 (c1' : Nat)) ∧ W = w')
    (P0 : ∀ W, Calls Tryz.prog 92 #[.int .u64 at_, .int .i64 0] W fun e w' => e = .returned (.int .i64 (c0' : Nat)) ∧ W = w')
    (a0 : Nat) (hs : tbGo F (entV U (root * 256 + 8 * c2')) = some a0) (hn2 : ∀ a, tbGo F (entV U (root * 256 + 8 * c2')) = some a → tbGo F (entV U (a * 256 + 8 * c1')) = none) (n1 : tbGo F (entV U (root * 256 + 8 * c2')) = none → res = none)
    (n2 : ∀ a, tbGo F (entV U (root * 256 + 8 * c2')) = some a → tbGo F (entV U (a * 256 + 8 * c1')) = none → res = none)
    (n3 : ∀ a b, tbGo F (entV U (root * 256 + 8 * c2')) = some a → tbGo F (entV U (a * 256 + 8 * c1')) = some b → res = some (b * 256 + 8 * c0')) :
    Calls Tryz.prog 67 #[.pointer (some ⟨r, 0, none⟩), .int .i64 root, .int .u64 at_] w (StepR S w r F U (lfVal res)) := by
  have HR := rw_root S w r F U h hF root
  rw [decide_eq_true (show (0 : Int) ≤ root ∧ (root : Int) < (F : Int) by omega)] at HR
  have WD := Lib.hid (fun W (H : RX S W r F U) tb k ht hk => rw_word S W r F U H hF tb k ht hk)
  have FE := Lib.hid (fun W e he => rw_frame W e he)
  obtain ⟨g, c0, _, _⟩ := (show ∃ g, w.cell? ⟨r, 0, none⟩ = some (.slice (some ⟨g, 0, none⟩) (F * 256) (F * 256)) ∧ True ∧ True by obtain ⟨g, _, _, a, _⟩ := h.fields; exact ⟨g, a, trivial, trivial⟩)
  have q0 : ((F : Int) * 256).tdiv 256 = (F : Int) := Int.mul_tdiv_cancel _ (by decide)
  have q1 : wrap64 (F : Int) = (F : Int) := by unfold wrap64; omega
  have qF : IntKind.u64.wrap (F : Int) = (F : Int) := by rw [u64_wrap]; omega
  have qr : IntKind.u64.wrap (root : Int) = (root : Int) := by rw [u64_wrap]; omega
  have d4 : decide ((8388608 : Int) ≤ (at_ : Int)) = false := decide_eq_false (by omega)
  have d5 : ¬ 8388608 ≤ at_ := by omega
  have N1 := Lib.hid n1; have N2 := Lib.hid n2; have N3 := Lib.hid n3
  clear n1 n2 n3
  have HX := Lib.hid h
  have HB := Lib.hid (And.intro hF (And.intro hr (And.intro k0 (And.intro k1 k2))))
  have P0 := Lib.hid P0; have P1 := Lib.hid P1; have P2 := Lib.hid P2; have HR := Lib.hid HR
  clear h ha hF hr k0 k1 k2
  have W0 := Lib.hid (WD.out w HX.out root c2' HB.out.2.1 HB.out.2.2.2.2)
  have hy0 := entV_lt U (root * 256 + 8 * c2')
  generalize hyy : entV U (root * 256 + 8 * c2') = y at *
  have HYY := Lib.hid hyy; have HY0 := Lib.hid hy0
  clear hyy hy0
  have w2y : IntKind.u64.wrap ((y : Int) / 2) = (y : Int) / 2 := by have := HY0.out; rw [u64_wrap]; omega
  have hgo : tbGo F y = if y % 2 = 0 ∨ y / 2 % 8 ≠ 0 ∨ F ≤ y / 1024 then none else some (y / 1024) := rfl
  have HGOy := Lib.hid hgo
  clear hgo
  by_cases e1 : y % 2 = 0
  · have hg : tbGo F y = none := by rw [HGOy.out, if_pos (.inl e1)]
    rw [hs] at hg; cases hg
  have e1' : y % 2 = 1 := by omega
  have k1y : (y : Int) % 2 = 1 := by omega
  by_cases e2 : y / 2 % 8 = 0
  · have k2y : (y : Int) / 2 % 8 = 0 := by omega
    have FYx := fun W => FE.out W y HY0.out
    by_cases e3 : F ≤ y / 1024
    · have hg : tbGo F y = none := by rw [HGOy.out, if_pos (.inr (.inr e3))]
      rw [hs] at hg; cases hg
    · have hg : tbGo F y = some (y / 1024) := by rw [HGOy.out, if_neg (by rintro (h | h | h); exact e1 h; exact h e2; exact e3 h)]
      generalize y / 1024 = fy at *
      have FY := Lib.hid FYx
      have d7y : decide ((F : Int) ≤ (fy : Int)) = false := decide_eq_false (by omega)
      have d8y : ¬ F ≤ fy := e3
      have HGy := Lib.hid hg
      clear hg e1 e1' e2 FYx
      have W1 := fun W (H : RX S W r F U) => WD.out W H fy c1' (by omega) HB.out.2.2.2.1
      have hv0 := entV_lt U (fy * 256 + 8 * c1')
      generalize hvv : entV U (fy * 256 + 8 * c1') = v at *
      have HVV := Lib.hid hvv; have HV0 := Lib.hid hv0
      have W1 := Lib.hid W1
      clear hvv hv0
      have w2v : IntKind.u64.wrap ((v : Int) / 2) = (v : Int) / 2 := by have := HV0.out; rw [u64_wrap]; omega
      have hgo : tbGo F v = if v % 2 = 0 ∨ v / 2 % 8 ≠ 0 ∨ F ≤ v / 1024 then none else some (v / 1024) := rfl
      have HGOv := Lib.hid hgo
      clear hgo
      by_cases e1 : v % 2 = 0
      · have hg : tbGo F v = none := by rw [HGOv.out, if_pos (.inl e1)]
        have hres := N2.out fy HGy.out (by rw [HVV.out]; exact hg)
        subst hres
        simp only [lfVal]
        have k1v : (v : Int) % 2 = 0 := by omega
        clear hg e1
        go_enter Tryz.func67, Tryz.ntmps67
        go_wp2_with fail
        refine HR.out.mono ?_
        rintro e w' ⟨rfl, rfl⟩
        go_wp2_with fail
        refine (P2.out w).mono ?_
        rintro e w' ⟨rfl, rfl⟩
        go_wp2_with fail
        refine W0.out.mono ?_
        rintro e w4 ⟨rfl, m4, c4⟩
        have M4 := Lib.hid (And.intro m4 c4); clear m4 c4
        go_wp2_with fail
        refine (FY.out w4).mono ?_
        rintro e w' ⟨rfl, rfl⟩
        go_wp2_with fail
        refine (FY.out w4).mono ?_
        rintro e w' ⟨rfl, rfl⟩
        go_wp2_with fail
        refine (P1.out w4).mono ?_
        rintro e w' ⟨rfl, rfl⟩
        go_wp2_with fail
        refine (W1.out w4 M4.out.1).mono ?_
        rintro e w5 ⟨rfl, m5, c5⟩
        have M5 := Lib.hid (And.intro m5 (M4.out.2.trans c5)); clear m5 c5
        go_wp2_with fail
        go_ret2
        exact ⟨rfl, M5.out⟩
      have e1' : v % 2 = 1 := by omega
      have k1v : (v : Int) % 2 = 1 := by omega
      by_cases e2 : v / 2 % 8 = 0
      · have k2v : (v : Int) / 2 % 8 = 0 := by omega
        have FYx := fun W => FE.out W v HV0.out
        by_cases e3 : F ≤ v / 1024
        · have hg : tbGo F v = none := by rw [HGOv.out, if_pos (.inr (.inr e3))]
          have hres := N2.out fy HGy.out (by rw [HVV.out]; exact hg)
          subst hres
          simp only [lfVal]
          generalize v / 1024 = fv at *
          have FV := Lib.hid FYx
          have d7v : decide ((F : Int) ≤ (fv : Int)) = true := decide_eq_true (by omega)
          clear hg e1 e1' e2 FYx
          go_enter Tryz.func67, Tryz.ntmps67
          go_wp2_with fail
          refine HR.out.mono ?_
          rintro e w' ⟨rfl, rfl⟩
          go_wp2_with fail
          refine (P2.out w).mono ?_
          rintro e w' ⟨rfl, rfl⟩
          go_wp2_with fail
          refine W0.out.mono ?_
          rintro e w4 ⟨rfl, m4, c4⟩
          have M4 := Lib.hid (And.intro m4 c4); clear m4 c4
          go_wp2_with fail
          refine (FY.out w4).mono ?_
          rintro e w' ⟨rfl, rfl⟩
          go_wp2_with fail
          refine (FY.out w4).mono ?_
          rintro e w' ⟨rfl, rfl⟩
          go_wp2_with fail
          refine (P1.out w4).mono ?_
          rintro e w' ⟨rfl, rfl⟩
          go_wp2_with fail
          refine (W1.out w4 M4.out.1).mono ?_
          rintro e w5 ⟨rfl, m5, c5⟩
          have M5 := Lib.hid (And.intro m5 (M4.out.2.trans c5)); clear m5 c5
          go_wp2_with fail
          refine (FV.out w5).mono ?_
          rintro e w' ⟨rfl, rfl⟩
          go_wp2_with fail
          go_ret2
          exact ⟨rfl, M5.out⟩
        · have hg : tbGo F v = some (v / 1024) := by rw [HGOv.out, if_neg (by rintro (h | h | h); exact e1 h; exact h e2; exact e3 h)]
          have h9 := hn2 _ HGy.out; rw [HVV.out, hg] at h9; cases h9
      · have hg : tbGo F v = none := by rw [HGOv.out, if_pos (.inr (.inl e2))]
        have hres := N2.out fy HGy.out (by rw [HVV.out]; exact hg)
        subst hres
        simp only [lfVal]
        obtain ⟨hq, hhq⟩ : ∃ hq : Nat, hq = v / 2 := ⟨_, rfl⟩
        obtain ⟨zq, hzq⟩ : ∃ zq : Nat, zq = hq % 8 := ⟨_, rfl⟩
        have d6 : ((zq : Int) != 0) = true := by simp; omega
        have d6' : ¬ zq = 0 := by omega
        have w4 : IntKind.u64.wrap ((v : Int) / 2) = (hq : Int) := by rw [w2v]; omega
        have w5 : (hq : Int) % 8 = (zq : Int) := by omega
        have w6 : (hq : Int).tmod 8 = (zq : Int) := by rw [Int.tmod_eq_emod_of_nonneg (by omega)]; omega
        clear w2v hhq hzq e2
        clear hg e1 e1'
        go_enter Tryz.func67, Tryz.ntmps67
        go_wp2_with fail
        refine HR.out.mono ?_
        rintro e w' ⟨rfl, rfl⟩
        go_wp2_with fail
        refine (P2.out w).mono ?_
        rintro e w' ⟨rfl, rfl⟩
        go_wp2_with fail
        refine W0.out.mono ?_
        rintro e w4 ⟨rfl, m4, c4⟩
        have M4 := Lib.hid (And.intro m4 c4); clear m4 c4
        go_wp2_with fail
        refine (FY.out w4).mono ?_
        rintro e w' ⟨rfl, rfl⟩
        go_wp2_with fail
        refine (FY.out w4).mono ?_
        rintro e w' ⟨rfl, rfl⟩
        go_wp2_with fail
        refine (P1.out w4).mono ?_
        rintro e w' ⟨rfl, rfl⟩
        go_wp2_with fail
        refine (W1.out w4 M4.out.1).mono ?_
        rintro e w5 ⟨rfl, m5, c5⟩
        have M5 := Lib.hid (And.intro m5 (M4.out.2.trans c5)); clear m5 c5
        go_wp2_with fail
        go_ret2
        exact ⟨rfl, M5.out⟩
  · have hg : tbGo F y = none := by rw [HGOy.out, if_pos (.inr (.inl e2))]
    rw [hs] at hg; cases hg
set_option maxRecDepth 100000 in
set_option maxHeartbeats 1600000 in
theorem rleaf_c3 (S : Nat → Prop) (w : World) (r F : Nat) (U : Nat → Nat) (h : RX S w r F U) (hF : F ≤ 256) (root : Nat) (hr : root < F) (at_ : Nat) (ha : at_ < 8388608) (c0' c1' c2' : Nat) (k0 : c0' < 32) (k1 : c1' < 32) (k2 : c2' < 32) (res : Option Nat)
    (P2 : ∀ W, Calls Tryz.prog 92 #[.int .u64 at_, .int .i64 2] W fun e w' => e = .returned (.int .i64 (c2' : Nat)) ∧ W = w')
    (P1 : ∀ W, Calls Tryz.prog 92 #[.int .u64 at_, .int .i64 1] W fun e w' => e = .returned (.int .i64 (c1' : Nat)) ∧ W = w')
    (P0 : ∀ W, Calls Tryz.prog 92 #[.int .u64 at_, .int .i64 0] W fun e w' => e = .returned (.int .i64 (c0' : Nat)) ∧ W = w')
    (a0 : Nat) (hs : tbGo F (entV U (root * 256 + 8 * c2')) = some a0) (hn2 : ∀ a, tbGo F (entV U (root * 256 + 8 * c2')) = some a → tbGo F (entV U (a * 256 + 8 * c1')) ≠ none) (n1 : tbGo F (entV U (root * 256 + 8 * c2')) = none → res = none)
    (n2 : ∀ a, tbGo F (entV U (root * 256 + 8 * c2')) = some a → tbGo F (entV U (a * 256 + 8 * c1')) = none → res = none)
    (n3 : ∀ a b, tbGo F (entV U (root * 256 + 8 * c2')) = some a → tbGo F (entV U (a * 256 + 8 * c1')) = some b → res = some (b * 256 + 8 * c0')) :
    Calls Tryz.prog 67 #[.pointer (some ⟨r, 0, none⟩), .int .i64 root, .int .u64 at_] w (StepR S w r F U (lfVal res)) := by
  have HR := rw_root S w r F U h hF root
  rw [decide_eq_true (show (0 : Int) ≤ root ∧ (root : Int) < (F : Int) by omega)] at HR
  have WD := Lib.hid (fun W (H : RX S W r F U) tb k ht hk => rw_word S W r F U H hF tb k ht hk)
  have FE := Lib.hid (fun W e he => rw_frame W e he)
  obtain ⟨g, c0, _, _⟩ := (show ∃ g, w.cell? ⟨r, 0, none⟩ = some (.slice (some ⟨g, 0, none⟩) (F * 256) (F * 256)) ∧ True ∧ True by obtain ⟨g, _, _, a, _⟩ := h.fields; exact ⟨g, a, trivial, trivial⟩)
  have q0 : ((F : Int) * 256).tdiv 256 = (F : Int) := Int.mul_tdiv_cancel _ (by decide)
  have q1 : wrap64 (F : Int) = (F : Int) := by unfold wrap64; omega
  have qF : IntKind.u64.wrap (F : Int) = (F : Int) := by rw [u64_wrap]; omega
  have qr : IntKind.u64.wrap (root : Int) = (root : Int) := by rw [u64_wrap]; omega
  have d4 : decide ((8388608 : Int) ≤ (at_ : Int)) = false := decide_eq_false (by omega)
  have d5 : ¬ 8388608 ≤ at_ := by omega
  have N1 := Lib.hid n1; have N2 := Lib.hid n2; have N3 := Lib.hid n3
  clear n1 n2 n3
  have HX := Lib.hid h
  have HB := Lib.hid (And.intro hF (And.intro hr (And.intro k0 (And.intro k1 k2))))
  have P0 := Lib.hid P0; have P1 := Lib.hid P1; have P2 := Lib.hid P2; have HR := Lib.hid HR
  clear h ha hF hr k0 k1 k2
  have W0 := Lib.hid (WD.out w HX.out root c2' HB.out.2.1 HB.out.2.2.2.2)
  have hy0 := entV_lt U (root * 256 + 8 * c2')
  generalize hyy : entV U (root * 256 + 8 * c2') = y at *
  have HYY := Lib.hid hyy; have HY0 := Lib.hid hy0
  clear hyy hy0
  have w2y : IntKind.u64.wrap ((y : Int) / 2) = (y : Int) / 2 := by have := HY0.out; rw [u64_wrap]; omega
  have hgo : tbGo F y = if y % 2 = 0 ∨ y / 2 % 8 ≠ 0 ∨ F ≤ y / 1024 then none else some (y / 1024) := rfl
  have HGOy := Lib.hid hgo
  clear hgo
  by_cases e1 : y % 2 = 0
  · have hg : tbGo F y = none := by rw [HGOy.out, if_pos (.inl e1)]
    rw [hs] at hg; cases hg
  have e1' : y % 2 = 1 := by omega
  have k1y : (y : Int) % 2 = 1 := by omega
  by_cases e2 : y / 2 % 8 = 0
  · have k2y : (y : Int) / 2 % 8 = 0 := by omega
    have FYx := fun W => FE.out W y HY0.out
    by_cases e3 : F ≤ y / 1024
    · have hg : tbGo F y = none := by rw [HGOy.out, if_pos (.inr (.inr e3))]
      rw [hs] at hg; cases hg
    · have hg : tbGo F y = some (y / 1024) := by rw [HGOy.out, if_neg (by rintro (h | h | h); exact e1 h; exact h e2; exact e3 h)]
      generalize y / 1024 = fy at *
      have FY := Lib.hid FYx
      have d7y : decide ((F : Int) ≤ (fy : Int)) = false := decide_eq_false (by omega)
      have d8y : ¬ F ≤ fy := e3
      have HGy := Lib.hid hg
      clear hg e1 e1' e2 FYx
      have W1 := fun W (H : RX S W r F U) => WD.out W H fy c1' (by omega) HB.out.2.2.2.1
      have hv0 := entV_lt U (fy * 256 + 8 * c1')
      generalize hvv : entV U (fy * 256 + 8 * c1') = v at *
      have HVV := Lib.hid hvv; have HV0 := Lib.hid hv0
      have W1 := Lib.hid W1
      clear hvv hv0
      have w2v : IntKind.u64.wrap ((v : Int) / 2) = (v : Int) / 2 := by have := HV0.out; rw [u64_wrap]; omega
      have hgo : tbGo F v = if v % 2 = 0 ∨ v / 2 % 8 ≠ 0 ∨ F ≤ v / 1024 then none else some (v / 1024) := rfl
      have HGOv := Lib.hid hgo
      clear hgo
      by_cases e1 : v % 2 = 0
      · have hg : tbGo F v = none := by rw [HGOv.out, if_pos (.inl e1)]
        have h9 := hn2 _ HGy.out; rw [HVV.out, hg] at h9; exact absurd rfl h9
      have e1' : v % 2 = 1 := by omega
      have k1v : (v : Int) % 2 = 1 := by omega
      by_cases e2 : v / 2 % 8 = 0
      · have k2v : (v : Int) / 2 % 8 = 0 := by omega
        have FYx := fun W => FE.out W v HV0.out
        by_cases e3 : F ≤ v / 1024
        · have hg : tbGo F v = none := by rw [HGOv.out, if_pos (.inr (.inr e3))]
          have h9 := hn2 _ HGy.out; rw [HVV.out, hg] at h9; exact absurd rfl h9
        · have hg : tbGo F v = some (v / 1024) := by rw [HGOv.out, if_neg (by rintro (h | h | h); exact e1 h; exact h e2; exact e3 h)]
          generalize v / 1024 = fv at *
          have FV := Lib.hid FYx
          have d7v : decide ((F : Int) ≤ (fv : Int)) = false := decide_eq_false (by omega)
          have d8v : ¬ F ≤ fv := e3
          have HGv := Lib.hid hg
          clear hg e1 e1' e2 FYx
          have W2q1 : IntKind.u64.wrap ((fv : Int) * 256) = (fv : Int) * 256 := by have := HB.out.1; rw [u64_wrap]; omega
          have W2q2 : wrap64 (8 * (c0' : Int)) = 8 * (c0' : Int) := by have := HB.out.2.2.1; unfold wrap64; omega
          have W2q3 : IntKind.u64.wrap (8 * (c0' : Int)) = 8 * (c0' : Int) := by have := HB.out.2.2.1; rw [u64_wrap]; omega
          have W2q4 : IntKind.u64.wrap ((fv : Int) * 256 + 8 * (c0' : Int)) = (fv : Int) * 256 + 8 * (c0' : Int) := by have h1 := HB.out.1; have h2 := HB.out.2.2.1; rw [u64_wrap]; omega
          have hres := N3.out fy fv HGy.out (by rw [HVV.out]; exact HGv.out)
          subst hres
          simp only [lfVal]
          go_enter Tryz.func67, Tryz.ntmps67
          go_wp2_with fail
          refine HR.out.mono ?_
          rintro e w' ⟨rfl, rfl⟩
          go_wp2_with fail
          refine (P2.out w).mono ?_
          rintro e w' ⟨rfl, rfl⟩
          go_wp2_with fail
          refine W0.out.mono ?_
          rintro e w4 ⟨rfl, m4, c4⟩
          have M4 := Lib.hid (And.intro m4 c4); clear m4 c4
          go_wp2_with fail
          refine (FY.out w4).mono ?_
          rintro e w' ⟨rfl, rfl⟩
          go_wp2_with fail
          refine (FY.out w4).mono ?_
          rintro e w' ⟨rfl, rfl⟩
          go_wp2_with fail
          refine (P1.out w4).mono ?_
          rintro e w' ⟨rfl, rfl⟩
          go_wp2_with fail
          refine (W1.out w4 M4.out.1).mono ?_
          rintro e w5 ⟨rfl, m5, c5⟩
          have M5 := Lib.hid (And.intro m5 (M4.out.2.trans c5)); clear m5 c5
          go_wp2_with fail
          refine (FV.out w5).mono ?_
          rintro e w' ⟨rfl, rfl⟩
          go_wp2_with fail
          refine (FV.out w5).mono ?_
          rintro e w' ⟨rfl, rfl⟩
          go_wp2_with fail
          refine (P0.out w5).mono ?_
          rintro e w' ⟨rfl, rfl⟩
          go_wp2_with fail
          go_ret2
          exact ⟨by simp, M5.out⟩
      · have hg : tbGo F v = none := by rw [HGOv.out, if_pos (.inr (.inl e2))]
        have h9 := hn2 _ HGy.out; rw [HVV.out, hg] at h9; exact absurd rfl h9
  · have hg : tbGo F y = none := by rw [HGOy.out, if_pos (.inr (.inl e2))]
    rw [hs] at hg; cases hg
theorem rleaf_core (S : Nat → Prop) (w : World) (r F : Nat) (U : Nat → Nat) (h : RX S w r F U) (hF : F ≤ 256) (root : Nat) (hr : root < F) (at_ : Nat) (ha : at_ < 8388608) (c0' c1' c2' : Nat) (k0 : c0' < 32) (k1 : c1' < 32) (k2 : c2' < 32) (res : Option Nat)
    (P2 : ∀ W, Calls Tryz.prog 92 #[.int .u64 at_, .int .i64 2] W fun e w' => e = .returned (.int .i64 (c2' : Nat)) ∧ W = w')
    (P1 : ∀ W, Calls Tryz.prog 92 #[.int .u64 at_, .int .i64 1] W fun e w' => e = .returned (.int .i64 (c1' : Nat)) ∧ W = w')
    (P0 : ∀ W, Calls Tryz.prog 92 #[.int .u64 at_, .int .i64 0] W fun e w' => e = .returned (.int .i64 (c0' : Nat)) ∧ W = w')
    (n1 : tbGo F (entV U (root * 256 + 8 * c2')) = none → res = none)
    (n2 : ∀ a, tbGo F (entV U (root * 256 + 8 * c2')) = some a → tbGo F (entV U (a * 256 + 8 * c1')) = none → res = none)
    (n3 : ∀ a b, tbGo F (entV U (root * 256 + 8 * c2')) = some a → tbGo F (entV U (a * 256 + 8 * c1')) = some b → res = some (b * 256 + 8 * c0')) :
    Calls Tryz.prog 67 #[.pointer (some ⟨r, 0, none⟩), .int .i64 root, .int .u64 at_] w (StepR S w r F U (lfVal res)) := by
  cases hs : tbGo F (entV U (root * 256 + 8 * c2')) with
  | none => exact rleaf_c1 S w r F U h hF root hr at_ ha c0' c1' c2' k0 k1 k2 res P2 P1 P0 hs n1 n2 n3
  | some a0 =>
    cases h2 : tbGo F (entV U (a0 * 256 + 8 * c1')) with
    | none => exact rleaf_c2 S w r F U h hF root hr at_ ha c0' c1' c2' k0 k1 k2 res P2 P1 P0 a0 hs (fun a ha => by rw [hs] at ha; cases ha; exact h2) n1 n2 n3
    | some b0 => exact rleaf_c3 S w r F U h hF root hr at_ ha c0' c1' c2' k0 k1 k2 res P2 P1 P0 a0 hs (fun a ha => by rw [hs] at ha; cases ha; rw [h2]; exact Option.some_ne_none _) n1 n2 n3
theorem rleaf_in (S : Nat → Prop) (w : World) (r F : Nat) (U : Nat → Nat) (h : RX S w r F U) (hF : F ≤ 256) (root : Nat) (hr : root < F) (at_ : Nat) (ha : at_ < 8388608) :
    Calls Tryz.prog 67 #[.pointer (some ⟨r, 0, none⟩), .int .i64 root, .int .u64 at_] w (StepR S w r F U (lfVal (tbLeaf U F root at_))) :=
  rleaf_core S w r F U h hF root hr at_ ha _ _ _ (Nat.mod_lt _ (by decide)) (Nat.mod_lt _ (by decide)) (Nat.mod_lt _ (by decide)) _ (fun W => rw_part2 W at_ ha) (fun W => rw_part1 W at_ ha) (fun W => rw_part0 W at_ ha)
    (fun h => lf_none1 h) (fun _ h h2 => lf_none2 h h2) (fun _ _ h h2 => lf_some h h2)
end Go.Proofs.YtijooajhjcfneaaGreat
