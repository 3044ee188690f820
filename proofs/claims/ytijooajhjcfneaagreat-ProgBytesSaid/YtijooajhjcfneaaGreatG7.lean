/-
  Several texts in one: SpPath, SpMap, SpMap2, SpVis, SpLaw5.
-/
import Derived.Test.YtijooajhjcfneaaGreatG6
import Derived.Maps.AppendAt
namespace Go.Proofs.YtijooajhjcfneaaGreat
open Go.RowKit

theorem tb_part_pt (w : World) (page : Nat) (hp : page < 32768) (l : Nat) (hl : l ≤ 2) (x y : Int) (hx : x = ((page * 256 : Nat) : Int)) (hy : y = (l : Int)) :
    Calls Tryz.prog 84 #[.int .u64 x, .int .i64 y] w fun e w' => e = .returned (.int .i64 (pt page l : Nat)) ∧ w = w' := by
  subst hx hy
  rcases (show l = 0 ∨ l = 1 ∨ l = 2 by omega) with rfl | rfl | rfl
  · have k := tb_part0 w (page * 256) (by omega)
    rw [show page * 256 / 256 % 32 = pt page 0 from by unfold pt; rw [Nat.pow_zero]; omega] at k
    exact k
  · have k := tb_part1 w (page * 256) (by omega)
    rw [show page * 256 / 8192 % 32 = pt page 1 from by unfold pt; rw [Nat.pow_one]; omega] at k
    exact k
  · have k := tb_part2 w (page * 256) (by omega)
    rw [show page * 256 / 262144 % 32 = pt page 2 from by unfold pt; rw [show 32 ^ 2 = 1024 from rfl]; omega] at k
    exact k
theorem and_one (y : Nat) (hy : y < 18446744073709551616) : bits BinOp.and IntKind.u64 (y : Int) 1 = ((y % 2 : Nat) : Int) := by
  have h1 := u64_and_nat y 1 hy (by omega)
  rw [Nat.and_one_is_mod] at h1
  exact h1

theorem deep_none' {V : Nat → Nat} {page n t : Nat} (hn : n ≠ 0) (h : kid V t (pt page n) = none) : deep V page n t = (n, t) := by
  obtain ⟨m, rfl⟩ : ∃ m, n = m + 1 := ⟨n - 1, by omega⟩
  exact deep_none h
theorem deep_some' {V : Nat → Nat} {page n t t' : Nat} (hn : n ≠ 0) (h : kid V t (pt page n) = some t') : deep V page n t = deep V page (n - 1) t' := by
  obtain ⟨m, rfl⟩ : ∃ m, n = m + 1 := ⟨n - 1, by omega⟩
  exact deep_some h
theorem i64_wrap_eq {x y : Int} (h : x = y) (hy : -9223372036854775808 ≤ y ∧ y ≤ 9223372036854775807) : IntKind.i64.wrap x = y := by
  subst h
  simp [IntKind.wrap, IntKind.bits, IntKind.signed]
  omega
/-- where a row of tables stands -/
def RowAt (S : Nat → Prop) (w : World) (B q p F : Nat) (Fr : Nat → Bool) (V : Nat → Nat) (sv : Value) (xs : List Nat) (wr : World) : Prop :=
  UL B wr sv xs ∧ Pl (fun k => S k ∨ sv.ownBlock = some k) wr q p F 0 Fr V ∧ Chg (fun k => ¬ S k) w wr
def DeepAt (V : Nat → Nat) (R : Roles) (root page n t : Nat) (xs : List Nat) : Prop :=
  xs.length + n = 3 ∧ xs.getLast? = some t ∧ R t = some (root, n + 1, page / 32 ^ (n + 1)) ∧ deep V page 2 root = deep V page n t
def PathR (S : Nat → Prop) (w : World) (q p F : Nat) (Fr : Nat → Bool) (V : Nat → Nat) (R : Roles) (root page : Nat) (e : Ending) (w' : World) : Prop :=
  ∃ sv xs, e = .returned sv ∧ RowAt S w w.heap.size q p F Fr V sv xs w' ∧ xs.length + (deep V page 2 root).1 = 3 ∧ xs.getLast? = some (deep V page 2 root).2

theorem RowAt.stepped {S : Nat → Prop} {w wr w' : World} {B q p F : Nat} {Fr Fr' : Nat → Bool} {V V' : Nat → Nat} {sv v : Value} {xs : List Nat} {e : Ending} (h : RowAt S w B q p F Fr V sv xs wr) (k : StepF (fun k => S k ∨ sv.ownBlock = some k) wr q p F 0 Fr' V' v e w') : RowAt S w B q p F Fr' V' sv xs w' :=
  ⟨ownsRow_chg h.1 k.2.2 (fun k hk a => a (.inr hk)), k.2.1, h.2.2.trans (k.2.2.mono (fun k a b => a (.inl b)))⟩
theorem RowAt.next {S : Nat → Prop} {w wr w1 : World} {B q p F T : Nat} {Fr : Nat → Bool} {V : Nat → Nat} {sv v' : Value} {c : Array Value} {xs : List Nat} {x : Nat} (hB : w.heap.size ≤ B) (h : RowAt S w B q p F Fr V sv xs wr)
    (h1 : w1.ownsRow B 26 1 v' (xs.length + 1) ((xs.map fun x => Value.int .u64 (x : Nat)) ++ [.int .u64 (x : Nat)])) (hg : (wr.alloc (.cells c T)).grownBy w1 sv.ownBlock) (hat : v'.ownBlock = sv.ownBlock ∨ v'.ownBlock = some (wr.alloc (.cells c T)).heap.size) :
    RowAt S w B q p F Fr V v' (xs ++ [x]) w1 := by
  obtain ⟨a, b, _⟩ := row_next hB h.1 h.2.1 h.2.2 h1 hg hat
  refine ⟨?_, a, b⟩
  unfold UL
  rw [List.length_append, List.map_append]
  exact h1
theorem RowAt.drew {S : Nat → Prop} {w wr : World} {B q p F : Nat} {Fr : Nat → Bool} {V : Nat → Nat} {sv : Value} {xs : List Nat} (h : RowAt S w B q p F Fr V sv xs wr) : RowAt S w B q p F Fr V sv xs wr.drew := ⟨h.1, h.2.1.drew, h.2.2.drew⟩
theorem RowAt.last {S : Nat → Prop} {w wr : World} {B q p F : Nat} {Fr : Nat → Bool} {V : Nat → Nat} {sv : Value} {xs : List Nat} {t : Nat} (h : RowAt S w B q p F Fr V sv xs wr) (ht : xs.getLast? = some t) : ∃ g cap, sv = .slice (some ⟨g, 0, none⟩) xs.length cap ∧ wr.cell? ⟨g, xs.length - 1, none⟩ = some (.int .u64 (t : Nat)) := by
  have h0 : 0 < xs.length := by
    cases xs with
    | nil => simp at ht
    | cons => simp
  obtain ⟨g, cap, e, hc⟩ := h.1.form h0
  refine ⟨g, cap, e, ?_⟩
  rw [hc _ (by omega)]
  rw [List.getLast?_eq_getElem?, List.getElem?_eq_getElem (by omega)] at ht
  simp at ht
  rw [ht]

theorem RowAt.lastAt {S : Nat → Prop} {w wr : World} {B q p F g L cap ln : Nat} {Fr : Nat → Bool} {V : Nat → Nat} {xs : List Nat} {t : Nat} (h : RowAt S w B q p F Fr V (.slice (some ⟨g, 0, none⟩) L cap) xs wr) (ht : xs.getLast? = some t) (hl : ln = xs.length - 1) : wr.cell? ⟨g, ln, none⟩ = some (.int .u64 (t : Nat)) := by
  obtain ⟨g', cap', e, hc⟩ := h.last ht
  cases e
  rw [hl]
  exact hc
set_option maxRecDepth 100000 in
set_option maxHeartbeats 1600000 in
theorem sp_path {S : Nat → Prop} {w : World} {q p F : Nat} {Fr : Nat → Bool} {V : Nat → Nat} {R : Roles} (h : Pl S w q p F 0 Fr V) (hF : F ≤ 256) (hW : WF F Fr V R) (root page : Nat) (hr : R root = some (root, 3, 0)) (hp : page < 32768) :
    Calls Tryz.prog 81 #[.pointer (some ⟨q, 0, none⟩), .int .i64 root, .int .i64 page] w (PathR S w q p F Fr V R root page) := by
  obtain ⟨i0, hi, hz0, hz1, hz2⟩ := info_parts Tryz.infoU64
  have hrF := hW.lt _ _ hr
  have q0 : IntKind.u64.wrap (root : Int) = (root : Int) := u64_wrap_lt root (by omega)
  have q1 : IntKind.u64.wrap (page : Int) = (page : Int) := u64_wrap_lt page (by omega)
  have q2 : IntKind.u64.wrap ((page : Int) * 256) = (page : Int) * 256 := by rw [u64_wrap]; omega
  have h3 : page / 32 ^ (2 + 1) = 0 := Nat.div_eq_of_lt (by omega)
  have HR := Lib.hid (show RowAt S w w.heap.size q p F Fr V (.slice (some ⟨w.heap.size, 0, none⟩) 1 1) [root] (w.alloc (.cells #[.int .u64 (root : Nat)] 26)) from
    ⟨ul_one _ _ (Nat.le_refl _) _, h.beside (T := fun _ => False) ((Chg.refl _ w).alloc _) (fun _ h => h.elim) (fun k hk => by rcases hk with hk | hk; exact .inl hk; cases hk; exact .inr (Nat.le_refl _)) (fun k hk => by rcases hk with hk | hk; (have := h.lt k hk; simp; omega); (cases hk; simp)), (Chg.refl _ w).alloc _⟩)
  have HD := Lib.hid (show DeepAt V R root page 2 root [root] from ⟨rfl, rfl, by rw [h3]; exact hr, rfl⟩)
  have HP := Lib.hid (And.intro hp hF)
  have HW := Lib.hid hW
  clear h hr hrF h3 hW
  go_enter Tryz.func81, Tryz.ntmps81
  go_wp2_with fail
  go_loopw [7, 8] (fun l lev wr => ∃ sv n t xs, sv = l ∧ n ≤ 2 ∧ lev = .int .i64 (n : Nat) ∧ Hid (RowAt S w w.heap.size q p F Fr V sv xs wr) ∧ Hid (DeepAt V R root page n t xs)) (fun _ lev _ => (intOf lev).toNat)
  case atStart => exact ⟨_, 2, root, [root], rfl, Nat.le_refl _, rfl, HR, HD⟩
  case round =>
    obtain ⟨sv, n, t, xs, rfl, hn, rfl, HA, HB⟩ := hrel
    by_cases e0 : n = 0
    · subst e0
      have FIN := Lib.hid (show PathR S w q p F Fr V R root page (.returned sv) wr from ⟨sv, xs, rfl, HA.out, by rw [HB.out.2.2.2]; exact HB.out.1, by rw [HB.out.2.2.2]; exact HB.out.2.1⟩)
      clear HA HB
      go_wp2_with fail
      go_ret
      exact FIN.out
    · obtain ⟨g, cap, hsv, hcell⟩ := HA.out.last HB.out.2.1
      have hlen : xs.length + n = 3 := HB.out.1
      obtain ⟨ln, hln⟩ : ∃ ln, ln = xs.length - 1 := ⟨_, rfl⟩
      rw [← hln] at hcell
      obtain ⟨L, hL⟩ : ∃ L, L = xs.length := ⟨_, rfl⟩
      rw [← hL] at hsv
      have d0 : decide ((0 : Int) < (n : Int)) = true := decide_eq_true (by omega)
      have d1 : 0 < n := by omega
      have htF : t < F := HW.out.lt _ _ HB.out.2.2.1
      have hkl := pt_lt page n
      have hF2 := HP.out.2
      have KM := f_mem HA.out.2.1.drew
      have KP := tb_part_pt wr.drew page HP.out.1 n hn ((page : Int) * 256) (n : Int) (by omega) rfl
      have KL := f_load8 HA.out.2.1.drew hF2 (t * 256 + 8 * pt page n) (by omega) _ rfl
      have KA := sp_at wr.drew t (pt page n) (by omega) hkl (t : Int) (pt page n : Int) rfl rfl
      have hyl := entV_lt V (t * 256 + 8 * pt page n)
      obtain ⟨y, hy⟩ : ∃ y, y = entV V (t * 256 + 8 * pt page n) := ⟨_, rfl⟩
      rw [← hy] at KL hyl
      have HY := Lib.hid (show ent V t (pt page n) = y from hy.symm)
      have hb := and_one y hyl
      have KF := fun W => Lib.hid (tb_frame W y hyl)
      obtain ⟨k, hk⟩ : ∃ k, k = pt page n := ⟨_, rfl⟩
      rw [← hk] at KP KA
      obtain ⟨a, ha⟩ : ∃ a, a = t * 256 + 8 * pt page n := ⟨_, rfl⟩
      rw [← ha] at KL
      rw [hk, ← ha] at KA
      rw [← hk] at KA
      have i1 : (0 : Int) ≤ (ln : Int) := by omega
      have i2 : (ln : Int) < (L : Int) := by omega
      have i3 : wrap64 ((L : Int) - 1) = (ln : Int) := by unfold wrap64; omega
      have i4 : IntKind.i64.wrap ((L : Int) - 1) = (ln : Int) := i64_wrap_eq (by omega) (by omega)
      have i5 : ln < L := by omega
      have KM := Lib.hid KM; have KP := Lib.hid KP; have KL := Lib.hid KL; have KA := Lib.hid KA; have KF := Lib.hid KF; have HLN := Lib.hid (And.intro hlen hln)
      have HYL := Lib.hid hyl
      clear hy hk ha hkl htF hF2 hlen hln hyl hL
      subst hsv
      by_cases e1 : y % 2 = 0
      · rw [e1] at hb
        have FIN := fun w' (k : RowAt S w w.heap.size q p F Fr V (.slice (some ⟨g, 0, none⟩) L cap) xs w') => (show PathR S w q p F Fr V R root page (.returned (.slice (some ⟨g, 0, none⟩) L cap)) w' from
          ⟨_, xs, rfl, k, by rw [HB.out.2.2.2, deep_none' e0 (kid_none.2 (by rw [HY.out]; exact e1))]; exact HB.out.1, by rw [HB.out.2.2.2, deep_none' e0 (kid_none.2 (by rw [HY.out]; exact e1))]; exact HB.out.2.1⟩)
        have FIN := Lib.hid FIN
        clear e1
        go_wp2_with fail
        go_region_held3 (fun w' => w'.cell? ⟨g, ln, none⟩ = some (.int .u64 (t : Nat))) (first | assumption | exact hcell | (simp [*]; done))
          (first
            | (go_at_call 41; refine KM.out.mono ?_; rintro e v1 ⟨rfl, rfl⟩)
            | (go_at_call 84; refine KP.out.mono ?_; rintro e v1 ⟨rfl, rfl⟩)
            | (go_at_call 80; refine KA.out.mono ?_; rintro e v1 ⟨rfl, rfl⟩)
            | (go_at_call 57; refine KL.out.mono ?_; rintro e v9 ⟨rfl, m9, b9⟩; have M9 := Lib.hid (HA.out.drew.stepped ⟨rfl, m9, b9⟩ (v := .int .u64 0) (e := .returned (.int .u64 0))); clear m9 b9; have c9 := M9.out.lastAt HB.out.2.1 HLN.out.2))
        go_wp2_with fail
        go_ret
        exact FIN.out _ M9.out
      · have e1' : y % 2 = 1 := by omega
        rw [e1'] at hb
        have hkid : kid V t (pt page n) = some (y / 1024) := by
          unfold kid
          rw [HY.out, if_pos e1']
        have hdn := (HW.out.kid HB.out.2.2.1 (pt_lt page n) hkid).1
        rw [pt_join] at hdn
        obtain ⟨f, hf⟩ : ∃ f, f = y / 1024 := ⟨_, rfl⟩
        rw [← hf] at hkid hdn KF
        have ND := Lib.hid (show DeepAt V R root page (n - 1) f (xs ++ [f]) from ⟨by rw [List.length_append]; have := HB.out.1; simp; omega, by simp, by rw [show n - 1 + 1 = n from by omega]; exact hdn, HB.out.2.2.2.trans (deep_some' e0 hkid)⟩)
        have km : xs.length + 1 ≤ maxLen := by have := HB.out.1; unfold maxLen; omega
        have kb : (xs.length + 1) * 8 ≤ 140737488355328 := by have := HB.out.1; omega
        have KF := Lib.hid KF
        clear e1 e1' hkid hdn hf
        go_wp2_with fail
        go_region_held3 (fun w' => w'.cell? ⟨g, ln, none⟩ = some (.int .u64 (t : Nat))) (first | assumption | exact hcell | (simp [*]; done))
          (first
            | (go_at_call 41; refine KM.out.mono ?_; rintro e v1 ⟨rfl, rfl⟩)
            | (go_at_call 84; refine KP.out.mono ?_; rintro e v1 ⟨rfl, rfl⟩)
            | (go_at_call 80; refine KA.out.mono ?_; rintro e v1 ⟨rfl, rfl⟩)
            | (go_at_call 57; refine KL.out.mono ?_; rintro e v9 ⟨rfl, m9, b9⟩; have M9 := Lib.hid (HA.out.drew.stepped ⟨rfl, m9, b9⟩ (v := .int .u64 0) (e := .returned (.int .u64 0))); clear m9 b9; have c9 := M9.out.lastAt HB.out.2.1 HLN.out.2))
        go_wp2_with fail
        refine (KF.out v9).out.mono ?_
        rintro e w' ⟨rfl, rfl⟩
        have hU9 := M9.out.1
        have hsz : w.heap.size ≤ v9.heap.size := M9.out.2.2.size
        clear KM KP KL KA KF HA c9 hcell
        go_wp2_with (at_builtin; refine wpList_append_own_at _ rfl (.tmp 39) (.tmp 42) 119 rfl w.heap.size 26 i0 (.int .u64 0) 1 8 Tryz.underlying119 hi hz0 hz1 hz2 rfl (by decide) _ _ _ rfl (hU9.alloc _) ⟨v9.heap.size, 0, none⟩ 1 1 [.int .u64 (f : Nat)] rfl rfl (cell_one_new _ _ _) (by simp [Value.oneCell']) km kb (by simp; omega) ?_; intro v' w1 hown1 hgrow1 _ hat1; have HN := Lib.hid (M9.out.next (Nat.le_refl _) hown1 hgrow1 hat1); clear hown1 hgrow1 hat1)
        go_roundw
        case rel => exact ⟨_, n - 1, f, xs ++ [f], rfl, by omega, by go_num, HN, ND⟩
        case measure => simp [intOf]; omega
end Go.Proofs.YtijooajhjcfneaaGreat

namespace Go.Proofs.YtijooajhjcfneaaGreat
open Go.RowKit

theorem mod32 (page : Nat) : (page : Int) % 32 = (pt page 0 : Int) ∧ (page : Int).tmod 32 = (pt page 0 : Int) := by
  have e : pt page 0 = page % 32 := by unfold pt; rw [Nat.pow_zero, Nat.div_one]
  rw [e, Int.tmod_eq_emod_of_nonneg (by omega)]
  omega

set_option maxRecDepth 100000 in
set_option maxHeartbeats 800000 in
theorem sp_mapped {S : Nat → Prop} {w wr : World} {B q p F n t page : Nat} {Fr : Nat → Bool} {V : Nat → Nat} {sv : Value} {xs : List Nat} (h : RowAt S w B q p F Fr V sv xs wr) (hF : F ≤ 256) (hn : xs.length + n = 3) (hl : xs.getLast? = some t) (ht : t < F) (hp : page < 32768) :
    Calls Tryz.prog 82 #[.pointer (some ⟨q, 0, none⟩), sv, .int .i64 page] wr fun e w' => e = .returned (.bool (decide (n = 0 ∧ kid V t (pt page 0) ≠ none))) ∧ RowAt S w B q p F Fr V sv xs w' := by
  obtain ⟨g, cap, hsv, hcell⟩ := h.last hl
  obtain ⟨ln, hln⟩ : ∃ ln, ln = xs.length - 1 := ⟨_, rfl⟩
  rw [← hln] at hcell
  obtain ⟨L, hL⟩ : ∃ L, L = xs.length := ⟨_, rfl⟩
  rw [← hL] at hsv
  by_cases e0 : n = 0
  · have d0 : decide ((L : Int) < 3) = false := decide_eq_false (by omega)
    have d1 : ¬ L < 3 := by omega
    have hkl := pt_lt page 0
    obtain ⟨m1, m2⟩ := mod32 page
    have KM := f_mem h.2.1.drew
    have KL := f_load8 h.2.1.drew hF (t * 256 + 8 * pt page 0) (by omega) _ rfl
    have KA := sp_at wr.drew t (pt page 0) (by omega) hkl (t : Int) (pt page 0 : Int) rfl rfl
    have hyl := entV_lt V (t * 256 + 8 * pt page 0)
    obtain ⟨y, hy⟩ : ∃ y, y = entV V (t * 256 + 8 * pt page 0) := ⟨_, rfl⟩
    rw [← hy] at KL hyl
    have HY : ent V t (pt page 0) = y := hy.symm
    have hres : decide (n = 0 ∧ kid V t (pt page 0) ≠ none) = decide (y % 2 = 1) := by
      rw [decide_eq_decide]
      constructor
      · rintro ⟨_, a⟩
        refine Classical.byContradiction fun b => a (kid_none.2 (by rw [HY]; omega))
      · intro a
        refine ⟨e0, fun b => ?_⟩
        have := kid_none.1 b
        rw [HY] at this
        omega
    rw [hres]
    have hb := and_one y hyl
    obtain ⟨k, hk⟩ : ∃ k, k = pt page 0 := ⟨_, rfl⟩
    rw [← hk] at m1 m2
    obtain ⟨a, ha⟩ : ∃ a, a = t * 256 + 8 * pt page 0 := ⟨_, rfl⟩
    rw [← ha] at KL KA
    rw [← hk] at KA
    have i1 : (0 : Int) ≤ (ln : Int) := by omega
    have i2 : (ln : Int) < (L : Int) := by omega
    have i3 : wrap64 ((L : Int) - 1) = (ln : Int) := by unfold wrap64; omega
    have i4 : IntKind.i64.wrap ((L : Int) - 1) = (ln : Int) := i64_wrap_eq (by omega) (by omega)
    have i5 : ln < L := by omega
    have HLN := Lib.hid hln
    have HA := Lib.hid h
    have HL := Lib.hid hl
    have KM := Lib.hid KM; have KL := Lib.hid KL; have KA := Lib.hid KA
    clear h hn hl ht hp hF hkl hy HY hres hk ha hln hL hyl
    subst hsv
    rcases (show y % 2 = 0 ∨ y % 2 = 1 by omega) with e1 | e1
    all_goals
      rw [e1] at hb
      simp only [e1]
      clear e1
      go_enter Tryz.func82, Tryz.ntmps82
      go_wp2_with fail
      go_region_held3 (fun w' => w'.cell? ⟨g, ln, none⟩ = some (.int .u64 (t : Nat))) (first | assumption | exact hcell | (simp [*]; done))
        (first
          | (go_at_call 41; refine KM.out.mono ?_; rintro e v1 ⟨rfl, rfl⟩)
          | (go_at_call 80; refine KA.out.mono ?_; rintro e v1 ⟨rfl, rfl⟩)
          | (go_at_call 57; refine KL.out.mono ?_; rintro e v9 ⟨rfl, m9, b9⟩; have M9 := Lib.hid (HA.out.drew.stepped ⟨rfl, m9, b9⟩ (v := .int .u64 0) (e := .returned (.int .u64 0))); clear m9 b9; have c9 := M9.out.lastAt HL.out HLN.out))
      go_wp2_with fail
      go_ret
      exact ⟨rfl, M9.out⟩
  · have d0 : decide ((L : Int) < 3) = true := decide_eq_true (by omega)
    have d1 : L < 3 := by omega
    have hres : decide (n = 0 ∧ kid V t (pt page 0) ≠ none) = false := decide_eq_false (fun a => e0 a.1)
    rw [hres]
    have HA := Lib.hid h
    clear h hn hl ht hp hF hln hL hcell e0 hres
    subst hsv
    go_enter Tryz.func82, Tryz.ntmps82
    go_wp2_with fail
    go_ret
    exact ⟨rfl, HA.out⟩
end Go.Proofs.YtijooajhjcfneaaGreat

namespace Go.Proofs.YtijooajhjcfneaaGreat
open Go.RowKit

theorem WF.taken {F : Nat} {Fr : Nat → Bool} {V : Nat → Nat} {R : Roles} (h : WF F Fr V R) {f : Nat} {x : Nat × Nat × Nat} (hf : R f = some x) : (decide (((0 : Nat) : Int) ≤ (f : Int) ∧ (f : Int) < (F : Int)) && !Fr (f : Int).toNat) = true := by
  have h1 := h.lt _ _ hf
  have h2 : Fr f = false := by
    cases e : Fr f with
    | false => rfl
    | true => have := ((h.free f).1 e).2; rw [hf] at this; cases this
  rw [Int.toNat_natCast, h2, decide_eq_true (by omega)]
  rfl
theorem sp_map_nil (w : World) (root page bits : Int) :
    Calls Tryz.prog 55 #[.pointer none, .int .i64 root, .int .i64 page, .int .u64 bits] w fun e w' => e = .returned (.int .i64 1) ∧ w = w' := by
  have HT := Lib.hid (sp_taken_nil w root)
  go_enter Tryz.func55, Tryz.ntmps55
  go_wp2_with fail
  refine HT.out.mono ?_
  rintro e w1 ⟨rfl, rfl⟩
  go_wp2_with fail
  go_ret
  exact ⟨rfl, rfl⟩

set_option maxRecDepth 100000 in
theorem sp_map_a {S : Nat → Prop} {w : World} {q p F : Nat} {Fr : Nat → Bool} {V : Nat → Nat} (h : Pl S w q p F 0 Fr V) (hF : F ≤ 256) (root page : Int) (bits : Nat) (hb64 : bits < 18446744073709551616) (ht : (decide (((0 : Nat) : Int) ≤ root ∧ root < (F : Int)) && !Fr root.toNat) = false)  :
    Calls Tryz.prog 55 #[.pointer (some ⟨q, 0, none⟩), .int .i64 root, .int .i64 page, .int .u64 bits] w (StepF S w q p F 0 Fr V (.int .i64 1)) := by
  have HT := sp_taken h hF root
  rw [ht] at HT

  have HT := Lib.hid HT
  clear h hF ht
  go_enter Tryz.func55, Tryz.ntmps55
  go_wp2_with fail
  refine HT.out.mono ?_
  rintro e w1 ⟨rfl, m1, c1⟩
  have M1 := Lib.hid (And.intro m1 c1); clear m1 c1
  go_wp2_with fail
  go_ret
  exact ⟨rfl, M1.out⟩

set_option maxRecDepth 100000 in
theorem sp_map_b {S : Nat → Prop} {w : World} {q p F : Nat} {Fr : Nat → Bool} {V : Nat → Nat} (h : Pl S w q p F 0 Fr V) (hF : F ≤ 256) (root page : Int) (bits : Nat) (hb64 : bits < 18446744073709551616) (ht : (decide (((0 : Nat) : Int) ≤ root ∧ root < (F : Int)) && !Fr root.toNat) = true) (h1 : page < 0) :
    Calls Tryz.prog 55 #[.pointer (some ⟨q, 0, none⟩), .int .i64 root, .int .i64 page, .int .u64 bits] w (StepF S w q p F 0 Fr V (.int .i64 1)) := by
  have HT := sp_taken h hF root
  rw [ht] at HT
  have d1 : decide (page < (0 : Int)) = true := decide_eq_true h1
  have HT := Lib.hid HT
  clear h hF ht
  go_enter Tryz.func55, Tryz.ntmps55
  go_wp2_with fail
  refine HT.out.mono ?_
  rintro e w1 ⟨rfl, m1, c1⟩
  have M1 := Lib.hid (And.intro m1 c1); clear m1 c1
  go_wp2_with fail
  go_ret
  exact ⟨rfl, M1.out⟩

set_option maxRecDepth 100000 in
theorem sp_map_c {S : Nat → Prop} {w : World} {q p F : Nat} {Fr : Nat → Bool} {V : Nat → Nat} (h : Pl S w q p F 0 Fr V) (hF : F ≤ 256) (root page : Int) (bits : Nat) (hb64 : bits < 18446744073709551616) (ht : (decide (((0 : Nat) : Int) ≤ root ∧ root < (F : Int)) && !Fr root.toNat) = true) (h1 : 32768 ≤ page) :
    Calls Tryz.prog 55 #[.pointer (some ⟨q, 0, none⟩), .int .i64 root, .int .i64 page, .int .u64 bits] w (StepF S w q p F 0 Fr V (.int .i64 1)) := by
  have HT := sp_taken h hF root
  rw [ht] at HT
  have d1 : decide (page < (0 : Int)) = false := decide_eq_false (by omega)
  have d2 : decide ((32768 : Int) ≤ page) = true := decide_eq_true h1
  have d3 : ¬ page < 0 := by omega
  have HT := Lib.hid HT
  clear h hF ht
  go_enter Tryz.func55, Tryz.ntmps55
  go_wp2_with fail
  refine HT.out.mono ?_
  rintro e w1 ⟨rfl, m1, c1⟩
  have M1 := Lib.hid (And.intro m1 c1); clear m1 c1
  go_wp2_with fail
  go_ret
  exact ⟨rfl, M1.out⟩

set_option maxRecDepth 100000 in
theorem sp_map_d {S : Nat → Prop} {w : World} {q p F : Nat} {Fr : Nat → Bool} {V : Nat → Nat} (h : Pl S w q p F 0 Fr V) (hF : F ≤ 256) (root page : Int) (bits : Nat) (hb64 : bits < 18446744073709551616) (ht : (decide (((0 : Nat) : Int) ≤ root ∧ root < (F : Int)) && !Fr root.toNat) = true) (h1 : 0 ≤ page ∧ page < 32768) (h2 : bits % 2 = 0) :
    Calls Tryz.prog 55 #[.pointer (some ⟨q, 0, none⟩), .int .i64 root, .int .i64 page, .int .u64 bits] w (StepF S w q p F 0 Fr V (.int .i64 1)) := by
  have HT := sp_taken h hF root
  rw [ht] at HT
  have d1 : decide (page < (0 : Int)) = false := decide_eq_false (by omega)
  have d2 : decide ((32768 : Int) ≤ page) = false := decide_eq_false (by omega)
  have d3 : ¬ page < 0 := by omega
  have d4 : ¬ 32768 ≤ page := by omega
  have b1 := and_one bits hb64
  rw [h2] at b1
  clear h1 h2
  have HT := Lib.hid HT
  clear h hF ht
  go_enter Tryz.func55, Tryz.ntmps55
  go_wp2_with fail
  refine HT.out.mono ?_
  rintro e w1 ⟨rfl, m1, c1⟩
  have M1 := Lib.hid (And.intro m1 c1); clear m1 c1
  go_wp2_with fail
  go_ret
  exact ⟨rfl, M1.out⟩

set_option maxRecDepth 100000 in
theorem sp_map_e {S : Nat → Prop} {w : World} {q p F : Nat} {Fr : Nat → Bool} {V : Nat → Nat} (h : Pl S w q p F 0 Fr V) (hF : F ≤ 256) (root page : Int) (bits : Nat) (hb64 : bits < 18446744073709551616) (ht : (decide (((0 : Nat) : Int) ≤ root ∧ root < (F : Int)) && !Fr root.toNat) = true) (h1 : 0 ≤ page ∧ page < 32768) (h2 : bits % 2 = 1) (h3 : 31 < bits) :
    Calls Tryz.prog 55 #[.pointer (some ⟨q, 0, none⟩), .int .i64 root, .int .i64 page, .int .u64 bits] w (StepF S w q p F 0 Fr V (.int .i64 1)) := by
  have HT := sp_taken h hF root
  rw [ht] at HT
  have d1 : decide (page < (0 : Int)) = false := decide_eq_false (by omega)
  have d2 : decide ((32768 : Int) ≤ page) = false := decide_eq_false (by omega)
  have d3 : ¬ page < 0 := by omega
  have d4 : ¬ 32768 ≤ page := by omega
  have b1 := and_one bits hb64
  rw [h2] at b1
  have d5 : decide ((31 : Int) < (bits : Int)) = true := decide_eq_true (by omega)
  clear h1 h2
  have HT := Lib.hid HT
  clear h hF ht
  go_enter Tryz.func55, Tryz.ntmps55
  go_wp2_with fail
  refine HT.out.mono ?_
  rintro e w1 ⟨rfl, m1, c1⟩
  have M1 := Lib.hid (And.intro m1 c1); clear m1 c1
  go_wp2_with fail
  go_ret
  exact ⟨rfl, M1.out⟩

/-- within the loop -/
def MapAt (F page bits : Nat) (s0 : PS) (n0 t0 : Nat) (s : PS) (n t : Nat) (xs : List Nat) : Prop :=
  xs.length + n = 3 ∧ xs.getLast? = some t ∧ t < F ∧ mapGo F page bits s n t = mapGo F page bits s0 n0 t0 ∧ n + 1 ≤ s.left F
theorem f_take {S : Nat → Prop} {w : World} {q p F : Nat} {s : PS} (h : Pl S w q p F 0 s.Fr s.V) (hF : F ≤ 256) (hc : 0 < s.left F) :
    Calls Tryz.prog 12 #[.pointer (some ⟨q, 0, none⟩)] w (StepF S w q p F 0 (s.take F).Fr (s.take F).V (.tuple #[.int .i64 (s.top F : Nat), .int .i64 0])) := by
  have hl := lst_lt hc
  exact f_take_some h hF (s.top F) (Nat.zero_le _) hl (lst_some s.Fr F hl) (fun g _ hg => lst_none s.Fr F g hg)

theorem map_next {F page bits n0 t0 n t : Nat} {s0 s : PS} {xs : List Nat} (h : MapAt F page bits s0 n0 t0 s n t xs) (hn : n ≠ 0) (hf : s.top F < F) (hc : 0 < s.left F) : MapAt F page bits s0 n0 t0 (s.add F t (pt page n) 1) (n - 1) (s.top F) (xs ++ [s.top F]) := by
  obtain ⟨h1, h2, h3, h4, h5⟩ := h
  obtain ⟨m, rfl⟩ : ∃ m, n = m + 1 := ⟨n - 1, by omega⟩
  have hl := PS.left_add hc t (pt page (m + 1)) 1
  refine ⟨by rw [List.length_append]; simp; omega, by simp, hf, ?_, ?_⟩
  · rw [← h4, mapGo_succ]; rfl
  · omega
theorem map_last {F page bits n0 t0 t : Nat} {s0 s : PS} {xs : List Nat} (h : MapAt F page bits s0 n0 t0 s 0 t xs) : mapGo F page bits s0 n0 t0 = (s.take F).put F t (pt page 0) (s.top F * 1024 + bits) := h.2.2.2.1.symm
theorem map_wraps (L n : Nat) (h : L + n = 3) : wrap64 (3 - (L : Int)) = (n : Int) ∧ IntKind.i64.wrap (3 - (L : Int)) = (n : Int) ∧ wrap64 ((n : Int) + 1) = (n : Int) + 1 := by
  refine ⟨?_, i64_wrap_eq (by omega) (by omega), ?_⟩
  · unfold wrap64; omega
  · unfold wrap64; omega
theorem idx_wraps (L ln : Nat) (h : ln = L - 1) (h0 : L ≠ 0) (h3 : L ≤ 3) : (0 : Int) ≤ (ln : Int) ∧ (ln : Int) < (L : Int) ∧ wrap64 ((L : Int) - 1) = (ln : Int) ∧ IntKind.i64.wrap ((L : Int) - 1) = (ln : Int) ∧ ln < L := by
  refine ⟨by omega, by omega, ?_, i64_wrap_eq (by omega) (by omega), by omega⟩
  unfold wrap64; omega
theorem len_zero (L : Nat) (h : L + 0 = 3) : decide ((L : Int) < 3) = false ∧ ¬ L < 3 := ⟨decide_eq_false (by omega), by omega⟩
theorem len_more (L n : Nat) (h : L + n = 3) (hn : n ≠ 0) : decide ((L : Int) < 3) = true ∧ L < 3 ∧ L + 1 ≤ maxLen ∧ (L + 1) * 8 ≤ 140737488355328 := ⟨decide_eq_true (by omega), by omega, by unfold maxLen; omega, by omega⟩
theorem meas_lt {L x y : Nat} (hy : y = x + 1) (hx : L = x) (h3 : L < 3) : 3 - y < 3 - L := by omega
theorem lev_le {L n : Nat} (h : L + n = 3) (h0 : L ≠ 0) : n ≤ 2 := by omega
theorem page_wraps (page : Nat) (h : page < 32768) : IntKind.u64.wrap (page : Int) = (page : Int) ∧ IntKind.u64.wrap ((page : Int) * 256) = (page : Int) * 256 ∧ (page : Int) * 256 = ((page * 256 : Nat) : Int) := by
  refine ⟨u64_wrap_lt page (by omega), ?_, by omega⟩
  rw [u64_wrap]; omega
theorem f_leftS {S : Nat → Prop} {w : World} {q p F : Nat} {s : PS} (h : Pl S w q p F 0 s.Fr s.V) :
    Calls Tryz.prog 16 #[.pointer (some ⟨q, 0, none⟩)] w fun e w' => e = .returned (.int .i64 (s.left F : Nat)) ∧ w = w' := f_left h

set_option maxRecDepth 100000 in
set_option maxHeartbeats 3200000 in
theorem sp_map {S : Nat → Prop} {w : World} {q p F : Nat} {s : PS} {R : Roles} (h : Pl S w q p F 0 s.Fr s.V) (hF : F ≤ 256) (hW : WFS F s R) (root page bits : Nat) (hr : R root = some (root, 3, 0)) (hp : page < 32768) (hb : bits < 32) (hb1 : bits % 2 = 1) :
    Calls Tryz.prog 55 #[.pointer (some ⟨q, 0, none⟩), .int .i64 root, .int .i64 page, .int .u64 bits] w (StepF S w q p F 0 (mapS F s root page bits).1.Fr (mapS F s root page bits).1.V (.int .i64 (mapS F s root page bits).2)) := by
  obtain ⟨i0, hi, hz0, hz1, hz2⟩ := info_parts Tryz.infoU64
  have HT := sp_taken h hF root
  rw [hW.taken hr] at HT
  have h3 : page / 32 ^ (2 + 1) = 0 := Nat.div_eq_of_lt (by omega)
  have hd := deep_wf hW page root 2 root (by rw [h3]; exact hr)
  have hdF := hW.lt _ _ hd.2.1
  have hd2 := hd.1
  have KP := fun W (H : Pl S W q p F 0 s.Fr s.V) => Lib.hid (sp_path H hF hW root page hr hp)
  have d1 : decide ((page : Int) < (0 : Int)) = false := decide_eq_false (by omega)
  have d2 : decide ((32768 : Int) ≤ (page : Int)) = false := decide_eq_false (by omega)
  have d4 : ¬ 32768 ≤ page := by omega
  have b1 := and_one bits (by omega)
  rw [hb1] at b1
  have d5 : decide ((31 : Int) < (bits : Int)) = false := decide_eq_false (by omega)
  have d6 : ¬ 31 < bits := by omega
  have hmap : mapS F s root page bits = if (deep s.V page 2 root).1 = 0 ∧ kid s.V (deep s.V page 2 root).2 (pt page 0) ≠ none then (s, 9) else if s.left F < (deep s.V page 2 root).1 + 1 then (s, 4) else (mapGo F page bits s (deep s.V page 2 root).1 (deep s.V page 2 root).2, 0) := rfl
  rw [hmap]
  unfold PathR at KP
  clear h3 hd hmap hr hW h
  generalize (deep s.V page 2 root).1 = n0 at *
  generalize (deep s.V page 2 root).2 = t0 at *
  have HT := Lib.hid HT; have HP := Lib.hid KP; have HN := Lib.hid (And.intro hd2 (And.intro hdF (And.intro hF (And.intro hp (And.intro hb hb1)))))
  clear KP hd2 hdF hF hp hb hb1
  by_cases c1 : n0 = 0 ∧ kid s.V t0 (pt page 0) ≠ none
  · rw [if_pos c1]
    have hbm : decide (n0 = 0 ∧ kid s.V t0 (pt page 0) ≠ none) = true := decide_eq_true c1
    have HBM := Lib.hid hbm
    clear c1 hbm
    go_enter Tryz.func55, Tryz.ntmps55
    go_wp2_with fail
    refine HT.out.mono ?_
    rintro e w1 ⟨rfl, m1, k1⟩
    have M1 := Lib.hid m1; have C1 := Lib.hid k1; clear m1 k1
    go_wp2_with fail
    refine (HP.out w1 M1.out).out.mono ?_
    rintro e w2 ⟨sv, xs, rfl, hA, hl, ht⟩
    have KB := sp_mapped hA HN.out.2.2.1 hl ht HN.out.2.1 HN.out.2.2.2.1
    rw [HBM.out] at KB
    have KB := Lib.hid KB
    clear hA hl ht
    go_wp2_with (go_step3)
    refine KB.out.mono ?_
    rintro e w3 ⟨rfl, hA⟩
    have HA := Lib.hid hA; clear hA
    go_wp2_with fail
    try rw [Exit.noGoto_ret]
    go_ret
    exact ⟨rfl, HA.out.2.1.weak (fun k a => .inl a), C1.out.trans HA.out.2.2⟩
  rw [if_neg c1]
  have hbm : decide (n0 = 0 ∧ kid s.V t0 (pt page 0) ≠ none) = false := decide_eq_false c1
  have HBM := Lib.hid hbm
  clear c1 hbm
  obtain ⟨c, hc⟩ : ∃ c, c = s.left F := ⟨_, rfl⟩
  rw [← hc]
  have KL := fun (W : World) (sv : Value) (xs : List Nat) (w1 : World) (H : RowAt S w1 w1.heap.size q p F s.Fr s.V sv xs W) => f_leftS H.2.1
  rw [← hc] at KL
  have KL := Lib.hid KL
  have HC := Lib.hid hc
  clear hc
  by_cases c2 : c < n0 + 1
  · rw [if_pos c2]
    go_enter Tryz.func55, Tryz.ntmps55
    go_wp2_with fail
    refine HT.out.mono ?_
    rintro e w1 ⟨rfl, m1, k1⟩
    have M1 := Lib.hid m1; have C1 := Lib.hid k1; clear m1 k1
    go_wp2_with fail
    refine (HP.out w1 M1.out).out.mono ?_
    rintro e w2 ⟨sv, xs, rfl, hA, hl, ht⟩
    obtain ⟨g, cap, hsv, _⟩ := hA.last ht
    have KB := sp_mapped hA HN.out.2.2.1 hl ht HN.out.2.1 HN.out.2.2.2.1
    rw [HBM.out] at KB
    obtain ⟨L, hL⟩ : ∃ L, L = xs.length := ⟨_, rfl⟩
    rw [← hL] at hsv
    have r3 : decide ((c : Int) < (n0 : Int) + 1) = true := decide_eq_true (by omega)
    have r4 : c < n0 + 1 := c2
    obtain ⟨r1, r1', r2⟩ := map_wraps L n0 (hL ▸ hl)
    have KB := Lib.hid KB
    clear hA hl ht hL c2
    subst hsv
    go_wp2_with (go_step3)
    refine KB.out.mono ?_
    rintro e w3 ⟨rfl, hA⟩
    have HA := Lib.hid hA; clear hA
    go_wp2_with fail
    refine (KL.out w3 _ _ _ HA.out).mono ?_
    rintro e w4 ⟨rfl, rfl⟩
    go_wp2_with fail
    try rw [Exit.noGoto_ret]
    go_ret
    exact ⟨rfl, HA.out.2.1.weak (fun k a => .inl a), C1.out.trans HA.out.2.2⟩
  · rw [if_neg c2]
    have KT := fun (W : World) (sv : Value) (s' : PS) (xs : List Nat) (w1 : World) (H : RowAt S w1 w1.heap.size q p F s'.Fr s'.V sv xs W) (hc : 0 < s'.left F) => Lib.hid (f_take H.2.1 HN.out.2.2.1 hc)
    have KT := Lib.hid KT
    obtain ⟨q1, q2, q3⟩ := page_wraps page HN.out.2.2.2.1
    have Q3 := Lib.hid q3
    clear q3
    go_enter Tryz.func55, Tryz.ntmps55
    go_wp2_with fail
    refine HT.out.mono ?_
    rintro e w1 ⟨rfl, m1, k1⟩
    have M1 := Lib.hid m1; have C1 := Lib.hid k1; clear m1 k1
    go_wp2_with fail
    refine (HP.out w1 M1.out).out.mono ?_
    rintro e w2 ⟨sv, xs, rfl, hA, hl, ht⟩
    obtain ⟨g, cap, hsv, _⟩ := hA.last ht
    have KB := sp_mapped hA HN.out.2.2.1 hl ht HN.out.2.1 HN.out.2.2.2.1
    rw [HBM.out] at KB
    obtain ⟨L, hL⟩ : ∃ L, L = xs.length := ⟨_, rfl⟩
    rw [← hL] at hsv
    have HMA := Lib.hid (show MapAt F page bits s n0 t0 s n0 t0 xs from ⟨hl, ht, HN.out.2.1, rfl, by rw [← HC.out]; exact Nat.not_lt.1 c2⟩)
    have r3 : decide ((c : Int) < (n0 : Int) + 1) = false := decide_eq_false (by clear hA; omega)
    have r4 : ¬ c < n0 + 1 := c2
    obtain ⟨r1, r1', r2⟩ := map_wraps L n0 (hL ▸ hl)
    have KB := Lib.hid KB
    clear hA hl ht hL c2
    subst hsv
    go_wp2_with (go_step3)
    refine KB.out.mono ?_
    rintro e w3 ⟨rfl, hA⟩
    have HA := Lib.hid hA; clear hA
    go_wp2_with fail
    refine (KL.out w3 _ _ _ HA.out).mono ?_
    rintro e w4 ⟨rfl, rfl⟩
    go_wp2_with fail
    try rw [Exit.noGoto_ret]
    clear KB KL r1 r1' r2 r3 r4 HT HP
    go_loopw [9] (fun l wr => ∃ sv s' n t xs, sv = l ∧ Hid (RowAt S w1 w1.heap.size q p F s'.Fr s'.V sv xs wr) ∧ Hid (MapAt F page bits s n0 t0 s' n t xs)) (fun l _ => 3 - (match l with | .slice _ n _ => n | _ => 0))
    case atStart => exact ⟨_, s, n0, t0, xs, rfl, HA, HMA⟩
    case round =>
      obtain ⟨sv, s', n, t, xs, rfl, HA, HM⟩ := hrel
      obtain ⟨g, cap, hsv, hcell⟩ := HA.out.last HM.out.2.1
      have hlen : xs.length + n = 3 := HM.out.1
      obtain ⟨ln, hln⟩ : ∃ ln, ln = xs.length - 1 := ⟨_, rfl⟩
      rw [← hln] at hcell
      obtain ⟨L, hL⟩ : ∃ L, L = xs.length := ⟨_, rfl⟩
      rw [← hL] at hsv
      have htF : t < F := HM.out.2.2.1
      have hF2 := HN.out.2.2.1
      have hpl := HN.out.2.2.2.1
      have hc0 : 0 < s'.left F := Nat.lt_of_lt_of_le (Nat.succ_pos _) HM.out.2.2.2.2
      have hflt : s'.top F < F := lst_lt hc0
      have KT1 := (KT.out wr sv s' xs w1 HA.out hc0).out
      have HC0 := Lib.hid (And.intro hc0 hflt)
      clear hc0 hflt
      have hkl := pt_lt page n
      have n0' : xs.length ≠ 0 := by intro e; rw [List.length_eq_zero_iff] at e; rw [e] at HM; exact absurd HM.out.2.1 (by simp)
      obtain ⟨i1, i2, i3, i4, i5⟩ := idx_wraps L ln (hL ▸ hln) (hL ▸ n0') (by rw [hL]; exact hlen ▸ Nat.le_add_right _ _)
      obtain ⟨i6, i7, _⟩ := map_wraps L n (hL ▸ hlen)
      have HLN := Lib.hid (And.intro hlen hln)
      by_cases e0 : n = 0
      · subst e0
        obtain ⟨d7, d8⟩ := len_zero L (hL ▸ hlen)
        obtain ⟨m1, m2⟩ := mod32 page
        obtain ⟨f, hf⟩ : ∃ f, f = s'.top F := ⟨_, rfl⟩
        have hfF : f < F := hf ▸ HC0.out.2
        rw [← hf] at KT1
        have HL := Lib.hid HM.out.2.1
        have KT1 := Lib.hid KT1
        have HPL := Lib.hid (And.intro hF2 (And.intro hpl (And.intro htF (And.intro hfF hkl))))
        have HHF := Lib.hid hf
        have n0x := n0'
        have HLL := Lib.hid hL
        clear hF2 hpl htF hfF hkl hlen hln hL hf n0'
        subst hsv
        have FE := Lib.hid (map_last HM.out)
        rw [← HHF.out] at FE
        go_wp2_with fail
        refine KT1.out.mono ?_
        rintro e w5 ⟨rfl, m5, c5⟩
        have M5 := Lib.hid (HA.out.stepped ⟨rfl, m5, c5⟩ (v := .int .u64 0) (e := .returned (.int .u64 0))); clear m5 c5
        have hcell := M5.out.lastAt HL.out HLN.out.2
        obtain ⟨hF2, hpl, htF, hfF, hkl⟩ := HPL.out
        have KM := f_mem M5.out.2.1.drew
        have KA := sp_at w5.drew t (pt page 0) (by omega) hkl (t : Int) (pt page 0 : Int) rfl rfl
        have KE := te_entry w5.drew f bits (by omega) (by have := HN.out.2.2.2.2.1; omega) (f : Int) (bits : Int) rfl rfl
        rw [show bits % 1024 = bits from by have := HN.out.2.2.2.2.1; omega] at KE
        have KS := f_store8 M5.out.2.1.drew hF2 (t * 256 + 8 * pt page 0) (by omega) (f * 1024 + bits) (by have := HN.out.2.2.2.2.1; omega) _ _ rfl rfl
        have QF := u64_wrap_lt f (by omega)
        obtain ⟨k, hk⟩ : ∃ k, k = pt page 0 := ⟨_, rfl⟩
        rw [← hk] at KA KS m1 m2 FE
        obtain ⟨a, ha⟩ : ∃ a, a = t * 256 + 8 * k := ⟨_, rfl⟩
        rw [← ha] at KA KS
        obtain ⟨v, hv⟩ : ∃ v, v = f * 1024 + bits := ⟨_, rfl⟩
        rw [← hv] at KE KS FE
        have HAV := Lib.hid (And.intro ha hv)
        have KPT := Lib.hid True.intro
        have KM := Lib.hid KM; have KA := Lib.hid KA; have KE := Lib.hid KE; have KS := Lib.hid KS
        clear hF2 hpl htF hfF hkl hk ha hv
        go_wp2_with fail
        go_region_held3 (fun w' => w'.cell? ⟨g, ln, none⟩ = some (.int .u64 (t : Nat))) (first | assumption | exact hcell | (simp [*]; done))
          (first
            | (go_at_call 41; refine KM.out.mono ?_; rintro e v1 ⟨rfl, rfl⟩)
            | (go_at_call 80; refine KA.out.mono ?_; rintro e v1 ⟨rfl, rfl⟩)
            | (go_at_call 85; refine KE.out.mono ?_; rintro e v1 ⟨rfl, rfl⟩)
            | (go_at_call 83; refine KS.out.mono ?_; rintro e v9 ⟨rfl, m9, b9⟩; have M9 := Lib.hid (M5.out.drew.stepped ⟨rfl, m9, b9⟩ (v := .int .u64 0) (e := .returned (.int .u64 0))); clear m9 b9; have c9 := M9.out.lastAt HL.out HLN.out.2))
        go_wp2_with fail
        go_ret
        rw [FE.out]
        refine ⟨rfl, ?_, C1.out.trans M9.out.2.2⟩
        have hz := M9.out.2.1.weak (S' := S) (fun k a => .inl a)
        rw [HAV.out.1] at hz
        show Pl S v9 q p F 0 (s'.take F).Fr (stV F (s'.take F).V (t * 256 + 8 * k) 8 v)
        exact hz
      · obtain ⟨d7, d8, km, kb⟩ := len_more L n (hL ▸ hlen) e0
        rw [hL] at km kb
        have NX := Lib.hid (map_next HM.out e0 HC0.out.2 HC0.out.1)
        obtain ⟨f, hf⟩ : ∃ f, f = s'.top F := ⟨_, rfl⟩
        have hfF : f < F := hf ▸ HC0.out.2
        rw [← hf] at KT1
        have HL := Lib.hid HM.out.2.1
        have KT1 := Lib.hid KT1
        have HPL := Lib.hid (And.intro hF2 (And.intro hpl (And.intro htF (And.intro hfF hkl))))
        have HHF := Lib.hid hf
        have n0x := n0'
        have HLL := Lib.hid hL
        clear hF2 hpl htF hfF hkl hlen hln hL hf n0'
        subst hsv
        rw [← HHF.out] at NX
        go_wp2_with fail
        refine KT1.out.mono ?_
        rintro e w5 ⟨rfl, m5, c5⟩
        have M5 := Lib.hid (HA.out.stepped ⟨rfl, m5, c5⟩ (v := .int .u64 0) (e := .returned (.int .u64 0))); clear m5 c5
        have hcell := M5.out.lastAt HL.out HLN.out.2
        obtain ⟨hF2, hpl, htF, hfF, hkl⟩ := HPL.out
        have KM := f_mem M5.out.2.1.drew
        have KA := sp_at w5.drew t (pt page n) (by omega) hkl (t : Int) (pt page n : Int) rfl rfl
        have KE := te_entry w5.drew f 1 (by omega) (by omega) (f : Int) (1 : Int) rfl rfl
        rw [show 1 % 1024 = 1 from rfl] at KE
        have KS := f_store8 M5.out.2.1.drew hF2 (t * 256 + 8 * pt page n) (by omega) (f * 1024 + 1) (by omega) _ _ rfl rfl
        have QF := u64_wrap_lt f (by omega)
        have KPT := tb_part_pt w5.drew page hpl n (lev_le HLN.out.1 n0x) ((page : Int) * 256) (n : Int) Q3.out rfl
        obtain ⟨k, hk⟩ : ∃ k, k = pt page n := ⟨_, rfl⟩
        rw [← hk] at KA KS KPT NX
        obtain ⟨a, ha⟩ : ∃ a, a = t * 256 + 8 * k := ⟨_, rfl⟩
        rw [← ha] at KA KS
        obtain ⟨v, hv⟩ : ∃ v, v = f * 1024 + 1 := ⟨_, rfl⟩
        rw [← hv] at KE KS
        have HAV := Lib.hid (And.intro ha hv)
        have KM := Lib.hid KM; have KA := Lib.hid KA; have KE := Lib.hid KE; have KS := Lib.hid KS; have KPT := Lib.hid KPT
        clear hF2 hpl htF hfF hkl hk ha hv
        go_wp2_with fail
        go_region_held3 (fun w' => w'.cell? ⟨g, ln, none⟩ = some (.int .u64 (t : Nat))) (first | assumption | exact hcell | (simp [*]; done))
          (first
            | (go_at_call 41; refine KM.out.mono ?_; rintro e v1 ⟨rfl, rfl⟩)
            | (go_at_call 84; refine KPT.out.mono ?_; rintro e v1 ⟨rfl, rfl⟩)
            | (go_at_call 80; refine KA.out.mono ?_; rintro e v1 ⟨rfl, rfl⟩)
            | (go_at_call 85; refine KE.out.mono ?_; rintro e v1 ⟨rfl, rfl⟩)
            | (go_at_call 83; refine KS.out.mono ?_; rintro e v9 ⟨rfl, m9, b9⟩; have M9 := Lib.hid (M5.out.drew.stepped ⟨rfl, m9, b9⟩ (v := .int .u64 0) (e := .returned (.int .u64 0))); clear m9 b9; have c9 := M9.out.lastAt HL.out HLN.out.2))
        have hU9 := M9.out.1
        have hsz : w1.heap.size ≤ v9.heap.size := M9.out.2.2.size
        clear KM KA KE KS KPT KT1 HA c9 hcell
        go_wp2_with (at_builtin; refine wpList_append_own_at _ rfl (.tmp 79) (.tmp 82) 119 rfl w1.heap.size 26 i0 (.int .u64 0) 1 8 Tryz.underlying119 hi hz0 hz1 hz2 rfl (by decide) _ _ _ rfl (hU9.alloc _) ⟨v9.heap.size, 0, none⟩ 1 1 [.int .u64 (f : Nat)] rfl rfl (cell_one_new _ _ _) (by simp [Value.oneCell']) km kb (by simp; omega) ?_; intro v' w6 hown1 hgrow1 _ hat1; have hN := M9.out.next (Nat.le_refl _) hown1 hgrow1 hat1; rw [HAV.out.1, HAV.out.2, HHF.out] at hN; have HNX := Lib.hid hN; clear hown1 hgrow1 hat1 hN)
        go_roundw
        case rel => exact ⟨_, s'.add F t k 1, n - 1, f, xs ++ [f], rfl, by rw [HHF.out]; exact HNX, NX⟩
        case measure =>
          obtain ⟨g', cap', e', _⟩ := HNX.out.last (by rw [← HHF.out]; exact NX.out.2.1)
          rw [e']
          exact meas_lt (by rw [List.length_append]; rfl) HLL.out d8
end Go.Proofs.YtijooajhjcfneaaGreat

namespace Go.Proofs.YtijooajhjcfneaaGreat
open Go.RowKit

/-- what is visited behind entry k of a table, pages ahead of their tables -/
def visE (V : Nat → Nat) : Nat → Nat → Nat → Nat → List (Int × Nat)
  | 0, t, first, k => if ent V t k % 2 = 1 then [(((first * 32 + k : Nat) : Int), ent V t k)] else []
  | l + 1, t, first, k => if ent V t k % 2 = 1 then ((List.range 32).flatMap (visE V l (ent V t k / 1024) (first * 32 + k))) ++ [(-1, ent V t k)] else []
def visT (V : Nat → Nat) (l t first n : Nat) : List (Int × Nat) := (List.range n).flatMap (visE V l t first)
theorem visT_zero (V : Nat → Nat) (l t first : Nat) : visT V l t first 0 = [] := rfl
theorem visT_succ (V : Nat → Nat) (l t first n : Nat) : visT V l t first (n + 1) = visT V l t first n ++ visE V l t first n := by
  unfold visT
  rw [List.range_succ, List.flatMap_append]
  simp
theorem visE_no {V : Nat → Nat} {l t first k : Nat} (h : ent V t k % 2 = 0) : visE V l t first k = [] := by
  cases l with
  | zero => rw [visE, if_neg (by omega)]
  | succ l => rw [visE, if_neg (by omega)]
theorem visE_page {V : Nat → Nat} {t first k : Nat} (h : ent V t k % 2 = 1) : visE V 0 t first k = [(((first * 32 + k : Nat) : Int), ent V t k)] := by rw [visE, if_pos h]
theorem visE_table {V : Nat → Nat} {l t first k : Nat} (h : ent V t k % 2 = 1) : visE V (l + 1) t first k = visT V l (ent V t k / 1024) (first * 32 + k) 32 ++ [(-1, ent V t k)] := by rw [visE, if_pos h]; rfl
theorem visT_split (V : Nat → Nat) (l t first n : Nat) : ∀ m, n ≤ m → ∃ rest, visT V l t first m = visT V l t first n ++ rest := by
  intro m hm
  obtain ⟨d, rfl⟩ : ∃ d, m = n + d := ⟨m - n, by omega⟩
  clear hm
  induction d with
  | zero => exact ⟨[], by simp⟩
  | succ d ih =>
    obtain ⟨rest, h⟩ := ih
    exact ⟨rest ++ visE V l t first (n + d), by rw [← Nat.add_assoc, visT_succ, h, List.append_assoc]⟩
theorem visE_table' {V : Nat → Nat} {l lv t first k : Nat} (hl : lv = l + 1) (h : ent V t k % 2 = 1) : visE V lv t first k = visT V l (ent V t k / 1024) (first * 32 + k) 32 ++ [(-1, ent V t k)] := by subst hl; exact visE_table h
/-- the frame of a visit -/
abbrev frs (l : List (Int × Nat)) : List Nat := l.map fun v => v.2 / 1024
end Go.Proofs.YtijooajhjcfneaaGreat

namespace Go.Proofs.YtijooajhjcfneaaGreat
open Go.RowKit

theorem pow_up (i l l' : Nat) (h : l' ≤ l) : i / 32 ^ (l + 1 - l') = i / 32 ^ (l - l') / 32 := by
  rw [show l + 1 - l' = (l - l') + 1 from by omega, Nat.pow_succ, Nat.div_div_eq_div_mul]
theorem odd_cases (V : Nat → Nat) (t k : Nat) : ent V t k % 2 = 0 ∨ ent V t k % 2 = 1 := by
  generalize ent V t k = e
  omega
theorem kid_of_odd {V : Nat → Nat} {t k : Nat} (h : ent V t k % 2 = 1) : kid V t k = some (ent V t k / 1024) := by
  unfold kid; rw [if_pos h]
theorem mem_visT {V : Nat → Nat} {l t first n : Nat} {v : Int × Nat} : v ∈ visT V l t first n ↔ ∃ k, k < n ∧ v ∈ visE V l t first k := by
  unfold visT
  rw [List.mem_flatMap]
  constructor
  · rintro ⟨k, hk, hv⟩
    exact ⟨k, List.mem_range.1 hk, hv⟩
  · rintro ⟨k, hk, hv⟩
    exact ⟨k, List.mem_range.2 hk, hv⟩

theorem vis_role {F : Nat} {Fr : Nat → Bool} {V : Nat → Nat} {R : Roles} (h : WF F Fr V R) (root : Nat) : ∀ l t first k, R t = some (root, l + 1, first) → k < 32 → ∀ v ∈ visE V l t first k, ∃ l' i, R (v.2 / 1024) = some (root, l', i) ∧ l' ≤ l ∧ i / 32 ^ (l - l') = first * 32 + k := by
  intro l
  induction l with
  | zero =>
    intro t first k ht hk v hv
    rcases odd_cases V t k with e | e
    · rw [visE_no e] at hv; cases hv
    · rw [visE_page e] at hv
      have hv' := List.mem_singleton.1 hv
      rw [hv']
      exact ⟨0, first * 32 + k, (h.kid ht hk (kid_of_odd e)).1, Nat.le_refl _, by rw [Nat.sub_self, Nat.pow_zero, Nat.div_one]⟩
  | succ l ih =>
    intro t first k ht hk v hv
    rcases odd_cases V t k with e | e
    · rw [visE_no e] at hv; cases hv
    · rw [visE_table e] at hv
      have hc := (h.kid ht hk (kid_of_odd e)).1
      rcases List.mem_append.1 hv with hv | hv
      · obtain ⟨j, hj, hv⟩ := mem_visT.1 hv
        obtain ⟨l', i, h1, h2, h3⟩ := ih _ _ j hc hj v hv
        refine ⟨l', i, h1, by omega, ?_⟩
        rw [pow_up i l l' h2, h3]
        omega
      · have hv' := List.mem_singleton.1 hv
        rw [hv']
        exact ⟨l + 1, first * 32 + k, hc, Nat.le_refl _, by rw [Nat.sub_self, Nat.pow_zero, Nat.div_one]⟩

theorem frs_append (a b : List (Int × Nat)) : frs (a ++ b) = frs a ++ frs b := List.map_append
theorem mem_frs {a : List (Int × Nat)} {f : Nat} : f ∈ frs a ↔ ∃ v ∈ a, v.2 / 1024 = f := List.mem_map
theorem visT_nodup_of {F : Nat} {Fr : Nat → Bool} {V : Nat → Nat} {R : Roles} (h : WF F Fr V R) (root l t first : Nat) (ht : R t = some (root, l + 1, first)) (hE : ∀ k, k < 32 → (frs (visE V l t first k)).Nodup) : ∀ n, n ≤ 32 → (frs (visT V l t first n)).Nodup := by
  intro n
  induction n with
  | zero => intro _; exact List.nodup_nil
  | succ n ih =>
    intro hn
    rw [visT_succ, frs_append]
    refine List.nodup_append.2 ⟨ih (by omega), hE n (by omega), fun a ha b hb e => ?_⟩
    subst e
    obtain ⟨v, hv, hv2⟩ := mem_frs.1 ha
    obtain ⟨u, hu, hu2⟩ := mem_frs.1 hb
    obtain ⟨k, hk, hv⟩ := mem_visT.1 hv
    obtain ⟨l1, i1, p1, p2, p3⟩ := vis_role h root l t first k ht (by omega) v hv
    obtain ⟨l2, i2, s1, s2, s3⟩ := vis_role h root l t first n ht (by omega) u hu
    rw [hv2] at p1
    rw [hu2, p1] at s1
    cases s1
    rw [p3] at s3
    omega
theorem visE_nodup {F : Nat} {Fr : Nat → Bool} {V : Nat → Nat} {R : Roles} (h : WF F Fr V R) (root : Nat) : ∀ l t first k, R t = some (root, l + 1, first) → k < 32 → (frs (visE V l t first k)).Nodup := by
  intro l
  induction l with
  | zero =>
    intro t first k ht hk
    rcases odd_cases V t k with e | e
    · rw [visE_no e]; exact List.nodup_nil
    · rw [visE_page e]; simp
  | succ l ih =>
    intro t first k ht hk
    rcases odd_cases V t k with e | e
    · rw [visE_no e]; exact List.nodup_nil
    · rw [visE_table e, frs_append]
      have hc := (h.kid ht hk (kid_of_odd e)).1
      refine List.nodup_append.2 ⟨visT_nodup_of h root l _ _ hc (fun j hj => ih _ _ j hc hj) 32 (Nat.le_refl _), by simp, fun a ha b hb e2 => ?_⟩
      subst e2
      obtain ⟨v, hv, hv2⟩ := mem_frs.1 ha
      obtain ⟨u, hu, hu2⟩ := mem_frs.1 hb
      have hu' := List.mem_singleton.1 hu
      rw [hu'] at hu2
      obtain ⟨j, hj, hv⟩ := mem_visT.1 hv
      obtain ⟨l1, i1, p1, p2, p3⟩ := vis_role h root l _ _ j hc hj v hv
      rw [hv2, ← hu2, hc] at p1
      cases p1
      omega
theorem vis_nodup {F : Nat} {Fr : Nat → Bool} {V : Nat → Nat} {R : Roles} (h : WF F Fr V R) {root : Nat} (hr : R root = some (root, 3, 0)) : (frs (visT V 2 root 0 32)).Nodup ∧ root ∉ frs (visT V 2 root 0 32) := by
  refine ⟨visT_nodup_of h root 2 root 0 hr (fun k hk => visE_nodup h root 2 root 0 k hr hk) 32 (Nat.le_refl _), fun hm => ?_⟩
  obtain ⟨v, hv, hv2⟩ := mem_frs.1 hm
  obtain ⟨k, hk, hv⟩ := mem_visT.1 hv
  obtain ⟨l1, i1, p1, p2, p3⟩ := vis_role h root 2 root 0 k hr hk v hv
  rw [hv2, hr] at p1
  cases p1
  omega

/-- those above a frame -/
theorem WF.anc {F : Nat} {Fr : Nat → Bool} {V : Nat → Nat} {R : Roles} (h : WF F Fr V R) {f r l i : Nat} (hf : R f = some (r, l, i)) : ∀ m, l + m ≤ 3 → ∃ g, R g = some (r, l + m, i / 32 ^ m) := by
  intro m
  induction m with
  | zero => intro _; exact ⟨f, by rw [Nat.pow_zero, Nat.div_one]; exact hf⟩
  | succ m ih =>
    intro hm
    obtain ⟨g, hg⟩ := ih (by omega)
    obtain ⟨f', _, a, _⟩ := h.above hg (by omega)
    rw [← pow_step] at a
    exact ⟨f', a⟩
theorem vis_all {F : Nat} {Fr : Nat → Bool} {V : Nat → Nat} {R : Roles} (h : WF F Fr V R) (root : Nat) : ∀ l t first, l ≤ 2 → R t = some (root, l + 1, first) → ∀ f l' i, R f = some (root, l', i) → l' ≤ l → i / 32 ^ (l + 1 - l') = first → f ∈ frs (visT V l t first 32) := by
  intro l
  induction l with
  | zero =>
    intro t first _ ht f l' i hf hl hi
    obtain rfl : l' = 0 := by omega
    have hi' : i / 32 = first := by simpa using hi
    have hk := h.kid_of ht (by omega) (Nat.mod_lt i (show 32 > 0 by decide)) (show R f = some (root, 0, first * 32 + i % 32) from by rw [← hi', show i / 32 * 32 + i % 32 = i from by omega]; exact hf)
    obtain ⟨e1, e2⟩ := kid_some hk
    exact mem_frs.2 ⟨(((first * 32 + i % 32 : Nat) : Int), ent V t (i % 32)), mem_visT.2 ⟨i % 32, Nat.mod_lt _ (by decide), by rw [visE_page e1]; exact List.mem_singleton.2 rfl⟩, e2⟩
  | succ l ih =>
    intro t first hl2 ht f l' i hf hl hi
    obtain ⟨x, hx⟩ : ∃ x, x = i / 32 ^ (l + 1 - l') := ⟨_, rfl⟩
    have hx2 : x / 32 = first := by rw [hx, ← pow_up i (l + 1) l' hl]; exact hi
    obtain ⟨g, hg⟩ := h.anc hf (l + 1 - l') (by omega)
    rw [show l' + (l + 1 - l') = l + 1 from by omega, ← hx] at hg
    have hk := h.kid_of ht (by omega) (Nat.mod_lt x (show 32 > 0 by decide)) (show R g = some (root, l + 1, first * 32 + x % 32) from by rw [← hx2, show x / 32 * 32 + x % 32 = x from by omega]; exact hg)
    obtain ⟨e1, e2⟩ := kid_some hk
    have hxx : first * 32 + x % 32 = x := by omega
    by_cases c : l' = l + 1
    · subst c
      have hxi : x = i := by rw [hx, Nat.sub_self, Nat.pow_zero, Nat.div_one]
      rw [hxi] at hg
      obtain rfl := h.inj _ _ _ hg hf
      exact mem_frs.2 ⟨(-1, ent V t (x % 32)), mem_visT.2 ⟨x % 32, Nat.mod_lt _ (by decide), by rw [visE_table e1]; exact List.mem_append_right _ (List.mem_singleton.2 rfl)⟩, e2⟩
    · have hin := ih g x (by omega) hg f l' i hf (by omega) hx.symm
      obtain ⟨v, hv, hv2⟩ := mem_frs.1 hin
      refine mem_frs.2 ⟨v, mem_visT.2 ⟨x % 32, Nat.mod_lt _ (by decide), ?_⟩, hv2⟩
      rw [visE_table e1, hxx, e2]
      exact List.mem_append_left _ hv
/-- just the frames of a space -/
theorem vis_own {F : Nat} {Fr : Nat → Bool} {V : Nat → Nat} {R : Roles} (h : WF F Fr V R) {root : Nat} (hr : R root = some (root, 3, 0)) (f : Nat) : f ∈ frs (visT V 2 root 0 32) ∨ f = root ↔ ownR R root f = true := by
  rw [ownR_iff]
  constructor
  · rintro (hm | rfl)
    · obtain ⟨v, hv, hv2⟩ := mem_frs.1 hm
      obtain ⟨k, hk, hv⟩ := mem_visT.1 hv
      obtain ⟨l1, i1, p1, p2, p3⟩ := vis_role h root 2 root 0 k hr hk v hv
      rw [hv2] at p1
      exact ⟨_, _, p1⟩
    · exact ⟨_, _, hr⟩
  · rintro ⟨l, i, hf⟩
    have hl := h.level hf
    by_cases c : l = 3
    · exact .inr (hl.2 c).2
    · refine .inl (vis_all h root 2 root 0 (Nat.le_refl _) hr f l i hf (by omega) ?_)
      obtain ⟨g, hg⟩ := h.anc hf (3 - l) (by omega)
      rw [show l + (3 - l) = 3 from by omega] at hg
      have := (h.level hg).2 rfl
      rw [show 2 + 1 - l = 3 - l from by omega]
      exact this.1
end Go.Proofs.YtijooajhjcfneaaGreat
