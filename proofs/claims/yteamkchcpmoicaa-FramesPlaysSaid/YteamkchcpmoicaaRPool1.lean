/-
  The document's pool of frames by its contracts.
-/
import Derived.Test.YteamkchcpmoicaaHadB
import Derived.Test.YteamkchcpmoicaaRefMem3
namespace Go.Proofs.Yteamkchcpmoicaa
open Go.RowKit

abbrev RpT : TypeId := 69
structure RPool (w : World) (rq hd r g F first : Nat) (Is : Nat → Bool) (V : Nat → Nat) (t : Nat) : Prop where
  mem : RM w r g F V t
  blk : Blk w rq #[.pointer (some ⟨r, 0, none⟩), .int .i64 first, .slice (some ⟨hd, 0, none⟩) F F] RpT
  had : Had w hd F Is
  a1 : rq ≠ hd
  a2 : rq ≠ r
  a3 : rq ≠ g
  a4 : hd ≠ r
  a5 : hd ≠ g
  le : first ≤ F
def RpOwn (rq hd r g : Nat) (k : Nat) : Prop := k = rq ∨ k = hd ∨ k = r ∨ k = g
def RpK (w : World) (rq hd r g F first : Nat) (Is : Nat → Bool) (V : Nat → Nat) (t : Nat) (v : Value) (e : Ending) (w' : World) : Prop := e = .returned v ∧ RPool w' rq hd r g F first Is V t ∧ Chg (RpOwn rq hd r g) w w'
theorem Had.lt {w : World} {hd n : Nat} {f : Nat → Bool} (h : Had w hd n f) : hd < w.heap.size := by
  obtain ⟨cs, hb, _⟩ := h
  exact hb.lt
theorem RPool.chg {S : Nat → Prop} {w w' : World} {rq hd r g F first t : Nat} {Is : Nat → Bool} {V : Nat → Nat} (h : RPool w rq hd r g F first Is V t) (c : Chg S w w') (hn : ∀ k, RpOwn rq hd r g k → ¬ S k) : RPool w' rq hd r g F first Is V t :=
  ⟨h.mem.chg c (hn _ (.inr (.inr (.inl rfl)))) (hn _ (.inr (.inr (.inr rfl)))), c.blk h.blk (hn _ (.inl rfl)), h.had.chg c (hn _ (.inr (.inl rfl))), h.a1, h.a2, h.a3, h.a4, h.a5, h.le⟩
theorem RPool.lt {w : World} {rq hd r g F first t : Nat} {Is : Nat → Bool} {V : Nat → Nat} (h : RPool w rq hd r g F first Is V t) : ∀ k, RpOwn rq hd r g k → k < w.heap.size := by
  rintro k (rfl | rfl | rfl | rfl)
  · exact h.blk.lt
  · exact h.had.lt
  · exact h.mem.blk.lt
  · exact h.mem.row.lt
/-- behind what is done to its memory -/
theorem RPool.worked {w w' : World} {rq hd r g F first t t' : Nat} {Is : Nat → Bool} {V V' : Nat → Nat} {v : Value} {e : Ending} (h : RPool w rq hd r g F first Is V t) (k : RmK w r g F t' V' v e w') : RpK w rq hd r g F first Is V' t' v e w' := by
  obtain ⟨he, hm, hc⟩ := k
  have h1 := h.a2; have h2 := h.a3; have h3 := h.a4; have h4 := h.a5
  exact ⟨he, ⟨hm, hc.blk h.blk (by omega), h.had.chg hc (by omega), h.a1, h.a2, h.a3, h.a4, h.a5, h.le⟩, hc.mono (fun k a => by unfold RpOwn; omega)⟩
/-- behind a bool's turn -/
theorem RPool.set {w : World} {rq hd r g F first t i : Nat} {Is : Nat → Bool} {V : Nat → Nat} (h : RPool w rq hd r g F first Is V t) (hi : i < F) (v : Bool) :
    RPool (w.setCell ⟨hd, i, none⟩ (.bool v)) rq hd r g F first (setF Is i v) V t ∧ Chg (RpOwn rq hd r g) w (w.setCell ⟨hd, i, none⟩ (.bool v)) := by
  have c : Chg (fun k => k = hd) w (w.setCell ⟨hd, i, none⟩ (.bool v)) := (Chg.refl _ _).setCell _ _ (.inl rfl)
  have h1 := h.a1; have h3 := h.a4; have h4 := h.a5
  exact ⟨⟨h.mem.chg c (by omega) (by omega), c.blk h.blk (by omega), h.had.set hi v, h.a1, h.a2, h.a3, h.a4, h.a5, h.le⟩, c.mono (fun k a => .inr (.inl a))⟩
theorem RpK.after {w w1 w2 : World} {rq hd r g F first t : Nat} {Is : Nat → Bool} {V : Nat → Nat} {v : Value} {e : Ending} (c : Chg (RpOwn rq hd r g) w w1) (k : RpK w1 rq hd r g F first Is V t v e w2) : RpK w rq hd r g F first Is V t v e w2 := ⟨k.1, k.2.1, c.trans k.2.2⟩

set_option maxRecDepth 100000 in
set_option maxHeartbeats 800000 in
theorem rp_taken (w : World) (rq hd r g F first t : Nat) (hF : F ≤ 256) (Is : Nat → Bool) (V : Nat → Nat) (h : RPool w rq hd r g F first Is V t) (f : Int) :
    Calls Try.prog 36 #[.pointer (some ⟨rq, 0, none⟩), .int .i64 f] w fun e w' => e = .returned (.bool (decide ((first : Int) ≤ f ∧ f < (F : Int)) && Is f.toNat)) ∧ w = w' := by
  have c1 : w.cell? ⟨rq, 1, none⟩ = some (.int .i64 first) := h.blk.cellv 1 _ rfl
  have c2 : w.cell? ⟨rq, 2, none⟩ = some (.slice (some ⟨hd, 0, none⟩) F F) := h.blk.cellv 2 _ rfl
  by_cases h1 : (first : Int) ≤ f
  · have d1 : decide ((first : Int) ≤ f) = true := decide_eq_true h1
    by_cases h2 : f < (F : Int)
    · have d2 : decide (f < (F : Int)) = true := decide_eq_true h2
      obtain ⟨j, rfl⟩ := Int.eq_ofNat_of_zero_le (show 0 ≤ f by omega)
      have cj := h.had.cell j (by omega)
      have d3 : j < F := by omega
      rw [show decide ((first : Int) ≤ (j : Int) ∧ (j : Int) < (F : Int)) = true from decide_eq_true ⟨h1, h2⟩, Int.toNat_natCast]
      generalize Is j = b at *
      clear h hF
      go_enter Try.func36, Try.ntmps36
      go_wp2_with fail
      go_ret
      exact ⟨by simp, rfl⟩
    · have d2 : decide (f < (F : Int)) = false := decide_eq_false h2
      rw [show decide ((first : Int) ≤ f ∧ f < (F : Int)) = false from decide_eq_false (by omega)]
      clear h hF
      go_enter Try.func36, Try.ntmps36
      go_wp2_with fail
      go_ret
      exact ⟨by simp, rfl⟩
  · have d1 : decide ((first : Int) ≤ f) = false := decide_eq_false h1
    rw [show decide ((first : Int) ≤ f ∧ f < (F : Int)) = false from decide_eq_false (by omega)]
    clear h hF
    go_enter Try.func36, Try.ntmps36
    go_wp2_with fail
    go_ret
    exact ⟨by simp, rfl⟩

set_option maxHeartbeats 800000 in
theorem rp_give_no (w : World) (rq hd r g F first t : Nat) (hF : F ≤ 256) (Is : Nat → Bool) (V : Nat → Nat) (h : RPool w rq hd r g F first Is V t) (f : Int) (hf : ¬ ((first : Int) ≤ f ∧ f < (F : Int) ∧ Is f.toNat = true)) :
    Calls Try.prog 33 #[.pointer (some ⟨rq, 0, none⟩), .int .i64 f] w fun e w' => e = .returned (.int .i64 1) ∧ w = w' := by
  have HT := rp_taken w rq hd r g F first t hF Is V h f
  rw [show (decide ((first : Int) ≤ f ∧ f < (F : Int)) && Is f.toNat) = false from by
    cases hfr : Is f.toNat with
    | false => simp
    | true => rw [decide_eq_false (fun h => hf ⟨h.1, h.2, hfr⟩)]; rfl] at HT
  have HT := Lib.hid HT
  clear h hf
  go_enter Try.func33, Try.ntmps33
  go_wp2_with fail
  refine HT.out.mono ?_
  rintro e w1 ⟨rfl, rfl⟩
  go_wp2_with fail
  go_ret
  exact ⟨rfl, rfl⟩

set_option maxRecDepth 100000 in
set_option maxHeartbeats 800000 in
theorem rp_give_yes (w : World) (rq hd r g F first t : Nat) (hF : F ≤ 256) (Is : Nat → Bool) (V : Nat → Nat) (h : RPool w rq hd r g F first Is V t) (f : Nat) (h1 : first ≤ f) (h2 : f < F) (hf : Is f = true) :
    Calls Try.prog 33 #[.pointer (some ⟨rq, 0, none⟩), .int .i64 f] w (RpK w rq hd r g F first (setF Is f false) (clV F V f) t (.int .i64 0)) := by
  have HT := rp_taken w rq hd r g F first t hF Is V h f
  rw [show (decide ((first : Int) ≤ (f : Int) ∧ (f : Int) < (F : Int)) && Is (f : Int).toNat) = true from by rw [Int.toNat_natCast, hf, decide_eq_true (by omega)]; rfl] at HT
  have HT := Lib.hid HT
  have c2 : w.cell? ⟨rq, 2, none⟩ = some (.slice (some ⟨hd, 0, none⟩) F F) := h.blk.cellv 2 _ rfl
  have cj := h.had.cell f h2
  have fj := h.had.free f
  obtain ⟨hs, hc⟩ := h.set h2 false
  have c0 : (w.setCell ⟨hd, f, none⟩ (.bool false)).cell? ⟨rq, 0, none⟩ = some (.pointer (some ⟨r, 0, none⟩)) := hs.blk.cellv 0 _ rfl
  have HC := rm_clear _ r g F t hF V hs.mem (f : Int)
  rw [show cdF F (f : Int) = 0 from by unfold cdF; rw [if_pos (by omega)]] at HC
  have HC := Lib.hid HC
  have HS := Lib.hid hs; have CC := Lib.hid hc
  have d1 : (f : Int) < (F : Int) := by omega
  clear h hs hc hF h1
  go_enter Try.func33, Try.ntmps33
  go_wp2_with fail
  refine HT.out.mono ?_
  rintro e w1 ⟨rfl, rfl⟩
  go_wp2_with fail
  refine HC.out.mono ?_
  rintro e w2 ⟨rfl, hk⟩
  have HK := Lib.hid (HS.out.worked (v := .int .i64 0) (e := .returned (.int .i64 0)) ⟨rfl, hk⟩); clear hk
  go_wp2_with fail
  go_ret
  exact RpK.after CC.out HK.out

set_option maxRecDepth 100000 in
set_option maxHeartbeats 800000 in
theorem rp_left (w : World) (rq hd r g F first t : Nat) (hF : F ≤ 256) (Is : Nat → Bool) (V : Nat → Nat) (h : RPool w rq hd r g F first Is V t) :
    Calls Try.prog 35 #[.pointer (some ⟨rq, 0, none⟩)] w fun e w' => e = .returned (.int .i64 (cnt (fun f => !Is f) first (F - first) : Nat)) ∧ w = w' := by
  have c1 : w.cell? ⟨rq, 1, none⟩ = some (.int .i64 first) := h.blk.cellv 1 _ rfl
  have c2 : w.cell? ⟨rq, 2, none⟩ = some (.slice (some ⟨hd, 0, none⟩) F F) := h.blk.cellv 2 _ rfl
  have HH := Lib.hid h.had
  have hle := h.le
  clear h
  go_enter Try.func35, Try.ntmps35
  go_wp2_with fail
  go_loop [3, 4] (fun m i => ∃ k : Nat, first ≤ k ∧ k ≤ F ∧ i = .int .i64 k ∧ Hid (m = .int .i64 (cnt (fun f => !Is f) first (k - first) : Nat))) (fun _ i => F - (intOf i).toNat)
  case atStart => exact ⟨first, Nat.le_refl _, hle, rfl, Lib.hid (by simp [cnt])⟩
  obtain ⟨k, hk1, hk2, rfl, HM⟩ := hrel
  obtain rfl := HM.out
  clear HM
  have hcl := cnt_le (fun f => !Is f) first (k - first)
  by_cases hlt : k < F
  · have HS := Lib.hid (show cnt (fun f => !Is f) first (k + 1 - first) = cnt (fun f => !Is f) first (k - first) + (if (!Is k) = true then 1 else 0) from by
      rw [show k + 1 - first = (k - first) + 1 from by omega, cnt, show first + (k - first) = k from by omega])
    have ck := HH.out.cell k hlt
    have d1 : (k : Int) < (F : Int) := by omega
    generalize Is k = b at *
    generalize cnt (fun f => !Is f) first (k - first) = c at *
    have q1 : wrap64 ((c : Int) + 1) = (c : Int) + 1 := by unfold wrap64; omega
    cases b
    · go_wp2_with fail
      exact ⟨⟨k + 1, by omega, by omega, by go_num, Lib.hid (by rw [HS.out]; simp)⟩, by simp [intOf]; omega⟩
    · go_wp2_with fail
      exact ⟨⟨k + 1, by omega, by omega, by go_num, Lib.hid (by rw [HS.out]; simp)⟩, by simp [intOf]; omega⟩
  · obtain rfl : k = F := by omega
    generalize hcc : cnt (fun f => !Is f) first (k - first) = c at *
    have HCC := Lib.hid hcc; clear hcc
    go_wp2_with fail
    go_ret
    exact ⟨by rw [HCC.out]; rfl, rfl⟩
end Go.Proofs.Yteamkchcpmoicaa
