/-
  The document's pool of frames: New, Take by their contracts.
-/
import Derived.Test.YteamkchcpmoicaaRPool1
namespace Go.Proofs.Yteamkchcpmoicaa
open Go.RowKit

set_option maxRecDepth 100000 in
set_option maxHeartbeats 800000 in
theorem rp_new_no (w : World) (r g F t : Nat) (hF : F ≤ 256) (V : Nat → Nat) (h : RM w r g F V t) (first : Int) (hf : first < 0 ∨ (F : Int) < first) :
    Calls Try.prog 30 #[.pointer (some ⟨r, 0, none⟩), .int .i64 first] w fun e w' => e = .returned (.pointer none) ∧ w = w' := by
  have c0 : w.cell? ⟨r, 0, none⟩ = some (.slice (some ⟨g, 0, none⟩) (F * 256) (F * 256)) := h.blk.cellv 0 _ rfl
  have q0 : ((F : Int) * 256).tdiv 256 = (F : Int) := Int.mul_tdiv_cancel _ (by decide)
  have q1 : wrap64 (F : Int) = (F : Int) := by unfold wrap64; omega
  clear h
  by_cases h1 : first < 0
  · have d1 : decide (first < (0 : Int)) = true := decide_eq_true h1
    clear hf
    go_enter Try.func30, Try.ntmps30
    go_wp2_with fail
    go_ret
    exact ⟨rfl, rfl⟩
  · have d1 : decide (first < (0 : Int)) = false := decide_eq_false h1
    have h2 : (F : Int) < first := by omega
    have d2 : decide ((F : Int) < first) = true := decide_eq_true h2
    clear hf h1
    go_enter Try.func30, Try.ntmps30
    go_wp2_with fail
    go_ret
    exact ⟨rfl, rfl⟩

set_option maxRecDepth 100000 in
set_option maxHeartbeats 800000 in
theorem rp_new (w : World) (r g F first t : Nat) (hF : F ≤ 256) (V : Nat → Nat) (h : RM w r g F V t) (hf : first ≤ F) :
    Calls Try.prog 30 #[.pointer (some ⟨r, 0, none⟩), .int .i64 first] w fun e w' => e = .returned (.pointer (some ⟨w.heap.size + 1, 0, none⟩)) ∧ RPool w' (w.heap.size + 1) w.heap.size r g F first (fun _ => false) V t ∧ Chg (fun _ => False) w w' := by
  have c0 : w.cell? ⟨r, 0, none⟩ = some (.slice (some ⟨g, 0, none⟩) (F * 256) (F * 256)) := h.blk.cellv 0 _ rfl
  have q0 : ((F : Int) * 256).tdiv 256 = (F : Int) := Int.mul_tdiv_cancel _ (by decide)
  have q1 : wrap64 (F : Int) = (F : Int) := by unfold wrap64; omega
  have d1 : decide ((first : Int) < (0 : Int)) = false := decide_eq_false (by omega)
  have d2 : decide ((F : Int) < (first : Int)) = false := decide_eq_false (by omega)
  have d3 : ¬ F < first := by omega
  have hmb := fun W => make_bools W F (by omega)
  have HH := Lib.hid h
  clear h
  go_enter Try.func30, Try.ntmps30
  go_wp2_with fail
  go_ret
  have h := HH.out
  have l1 := h.blk.lt
  have l2 := h.row.lt
  have c : Chg (fun _ => False) w ((w.alloc (.cells (falses F) BoT)).alloc (.cells #[.pointer (some ⟨r, 0, none⟩), .int .i64 first, .slice (some ⟨w.heap.size, 0, none⟩) F F] RpT)) := ((Chg.refl _ w).alloc _).alloc _
  have hb := Blk.new (w.alloc (.cells (falses F) BoT)) #[.pointer (some ⟨r, 0, none⟩), .int .i64 first, .slice (some ⟨w.heap.size, 0, none⟩) F F] RpT
  rw [show (w.alloc (.cells (falses F) BoT)).heap.size = w.heap.size + 1 from by simp] at hb
  exact ⟨by simp, ⟨h.chg c (fun h => h) (fun h => h), hb, ⟨_, (Blk.new w _ _).alloc _, size_madeCells _ _, fun i hi => falses_get F i hi⟩, by omega, by omega, by omega, by omega, by omega, hf⟩, c⟩

set_option maxRecDepth 100000 in
set_option maxHeartbeats 800000 in
theorem rp_take_none (w : World) (rq hd r g F first t : Nat) (hF : F ≤ 256) (Is : Nat → Bool) (V : Nat → Nat) (h : RPool w rq hd r g F first Is V t) (hno : ∀ j, first ≤ j → j < F → Is j = true) :
    Calls Try.prog 32 #[.pointer (some ⟨rq, 0, none⟩)] w fun e w' => e = .returned (.tuple #[.int .i64 0, .int .i64 4]) ∧ w = w' := by
  have c1 : w.cell? ⟨rq, 1, none⟩ = some (.int .i64 first) := h.blk.cellv 1 _ rfl
  have c2 : w.cell? ⟨rq, 2, none⟩ = some (.slice (some ⟨hd, 0, none⟩) F F) := h.blk.cellv 2 _ rfl
  have HH := Lib.hid h.had
  have HN := Lib.hid hno
  have hle := h.le
  clear h hno
  go_enter Try.func32, Try.ntmps32
  go_wp2_with fail
  go_loop [4] (fun i => ∃ k : Nat, first ≤ k ∧ k ≤ F ∧ i = .int .i64 k) (fun i => F - (intOf i).toNat)
  case atStart => exact ⟨first, Nat.le_refl _, hle, rfl⟩
  obtain ⟨k, hk1, hk2, rfl⟩ := hrel
  by_cases hlt : k < F
  · have ck := HH.out.cell k hlt
    rw [HN.out k hk1 hlt] at ck
    have d1 : (k : Int) < (F : Int) := by omega
    go_wp2_with fail
    exact ⟨⟨k + 1, by omega, by omega, by go_num⟩, by simp [intOf]; omega⟩
  · obtain rfl : k = F := by omega
    go_wp2_with fail
    go_ret2
    exact ⟨rfl, rfl⟩

set_option maxRecDepth 100000 in
set_option maxHeartbeats 800000 in
theorem rp_take_some (w : World) (rq hd r g F first t : Nat) (hF : F ≤ 256) (Is : Nat → Bool) (V : Nat → Nat) (h : RPool w rq hd r g F first Is V t) (f : Nat) (hf1 : first ≤ f) (hf2 : f < F) (hfr : Is f = false) (hno : ∀ j, first ≤ j → j < f → Is j = true) :
    Calls Try.prog 32 #[.pointer (some ⟨rq, 0, none⟩)] w (RpK w rq hd r g F first (setF Is f true) (clV F V f) t (.tuple #[.int .i64 f, .int .i64 0])) := by
  have c1 : w.cell? ⟨rq, 1, none⟩ = some (.int .i64 first) := h.blk.cellv 1 _ rfl
  have c2 : w.cell? ⟨rq, 2, none⟩ = some (.slice (some ⟨hd, 0, none⟩) F F) := h.blk.cellv 2 _ rfl
  have HH := Lib.hid h.had
  have HN := Lib.hid hno
  have cj := h.had.cell f hf2
  rw [hfr] at cj
  have fj := h.had.free f
  obtain ⟨hs, hc⟩ := h.set hf2 true
  have c0 : (w.setCell ⟨hd, f, none⟩ (.bool true)).cell? ⟨rq, 0, none⟩ = some (.pointer (some ⟨r, 0, none⟩)) := hs.blk.cellv 0 _ rfl
  have HC := rm_clear _ r g F t hF V hs.mem (f : Int)
  rw [show cdF F (f : Int) = 0 from by unfold cdF; rw [if_pos (by omega)]] at HC
  have HC := Lib.hid HC
  have HS := Lib.hid hs; have CC := Lib.hid hc
  clear h hno hs hc hfr
  go_enter Try.func32, Try.ntmps32
  go_wp2_with fail
  go_loop [4] (fun i => ∃ k : Nat, first ≤ k ∧ k ≤ f ∧ i = .int .i64 k) (fun i => F - (intOf i).toNat)
  case atStart => exact ⟨first, Nat.le_refl _, hf1, rfl⟩
  obtain ⟨k, hk1, hk2, rfl⟩ := hrel
  have d1 : (k : Int) < (F : Int) := by omega
  have d2 : k < F := by omega
  by_cases hlt : k < f
  · have ck := HH.out.cell k (by omega)
    rw [HN.out k hk1 hlt] at ck
    clear cj c0
    go_wp2_with fail
    exact ⟨⟨k + 1, by omega, by omega, by go_num⟩, by simp [intOf]; omega⟩
  · obtain rfl : k = f := by omega
    go_wp2_with fail
    refine HC.out.mono ?_
    rintro e w2 ⟨rfl, hk⟩
    have HK := Lib.hid (HS.out.worked (v := .tuple #[.int .i64 k, .int .i64 0]) (e := .returned (.tuple #[.int .i64 k, .int .i64 0])) ⟨rfl, hk⟩); clear hk
    go_wp2_with fail
    go_ret2
    exact RpK.after CC.out HK.out
end Go.Proofs.Yteamkchcpmoicaa
