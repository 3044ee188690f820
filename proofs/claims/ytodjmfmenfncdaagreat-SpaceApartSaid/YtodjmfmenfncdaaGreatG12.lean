/-
  Several texts in one: SpGood, SpShown, SpShown2, SpShown3.
-/
import Derived.Test.YtodjmfmenfncdaaGreatG11
namespace Go.Proofs.YtodjmfmenfncdaaGreat
open Go.RowKit

structure SG (F : Nat) (s : PS) (R : Roles) : Prop where
  wf : WFS F s R
  full : Full R
theorem good_start (F : Nat) (V : Nat → Nat) : SG F ⟨frAll 0 F, V⟩ (fun _ => none) := by
  refine ⟨⟨fun f => ?_, (fun f x h => by cases h), (fun f r l i h => by cases h), (fun f g x h => by cases h), (fun f r l i k h => by cases h)⟩, (fun f r l i h => by cases h)⟩
  show frAll 0 F f = true ↔ _
  unfold frAll
  simp
theorem good_new {F : Nat} {s : PS} {R : Roles} (g : SG F s R) (hc : 0 < s.left F) : SG F (s.take F) (setR R (s.top F) (s.top F, 3, 0)) ∧ setR R (s.top F) (s.top F, 3, 0) (s.top F) = some (s.top F, 3, 0) ∧ (∀ f x, R f = some x → setR R (s.top F) (s.top F, 3, 0) f = some x) :=
  ⟨⟨(new_grow g.wf hc).1.wf, new_full g.wf g.full hc⟩, setR_same _ _ _, (new_grow g.wf hc).1.sub⟩
theorem good_map {F : Nat} (hF : F ≤ 256) {s : PS} {R : Roles} (g : SG F s R) {r page bits : Nat} (hr : R r = some (r, 3, 0)) (hp : page < 32768) (hb : bits < 32) (hb1 : bits % 2 = 1) {s' : PS} (hs : (mapS F s r page bits).1 = s') :
    ∃ R', SG F s' R' ∧ ∀ f x, R f = some x → R' f = some x := by
  rcases mapS_cases hF g.wf g.full hr hp hb hb1 with ⟨h, _⟩ | ⟨h, _⟩ | ⟨_, _, R', l, _, m, hf, _⟩
  · rw [h] at hs; subst hs; exact ⟨R, g, fun _ _ h => h⟩
  · rw [h] at hs; subst hs; exact ⟨R, g, fun _ _ h => h⟩
  · rw [hs] at m; exact ⟨R', ⟨m.grow.wf, hf⟩, m.grow.sub⟩
/-- an address of a space lies in one of its pages -/
theorem tbGo_some {F e x : Nat} (h : tbGo F e = some x) : e % 2 = 1 ∧ e / 1024 = x := by
  unfold tbGo at h
  by_cases c : e % 2 = 0 ∨ e / 2 % 8 ≠ 0 ∨ F ≤ e / 1024
  · rw [if_pos c] at h; cases h
  · rw [if_neg c] at h
    cases h
    exact ⟨by omega, rfl⟩
theorem tbMay_some {F e acc off a : Nat} (hoff : off < 256) (h : (if tbMay F e acc = true then some (e / 1024 * 256 + off) else none) = some a) : e % 2 = 1 ∧ a / 256 = e / 1024 := by
  by_cases hm : tbMay F e acc = true
  · rw [if_pos hm] at h
    cases h
    have h2 : e % 2 ≠ 0 := by unfold tbMay at hm; exact (of_decide_eq_true hm).1
    omega
  · rw [if_neg hm] at h
    cases h
theorem mod32_lt (x : Nat) : x % 32 < 32 := Nat.mod_lt _ (by decide)
theorem leaf_role {F : Nat} {s : PS} {R : Roles} (h : WFS F s R) {root at_ x : Nat} (hr : R root = some (root, 3, 0)) (hl : tbLeaf s.V F root at_ = some x) : ∃ b i k, k < 32 ∧ R b = some (root, 1, i) ∧ x = b * 256 + 8 * k := by
  unfold tbLeaf at hl
  rw [Option.bind_eq_some_iff] at hl
  obtain ⟨a, h1, hl⟩ := hl
  rw [Option.map_eq_some_iff] at hl
  obtain ⟨b, h2, rfl⟩ := hl
  obtain ⟨o1, d1⟩ := tbGo_some h1
  obtain ⟨o2, d2⟩ := tbGo_some h2
  have k1 : kid s.V root (at_ / 262144 % 32) = some a := by rw [kid_of_odd (show ent s.V root (at_ / 262144 % 32) % 2 = 1 from o1)]; exact congrArg some d1
  have r1 := (h.kid hr (mod32_lt _) k1).1
  have k2 : kid s.V a (at_ / 8192 % 32) = some b := by rw [kid_of_odd (show ent s.V a (at_ / 8192 % 32) % 2 = 1 from o2)]; exact congrArg some d2
  have r2 := (h.kid r1 (mod32_lt _) k2).1
  exact ⟨b, _, _, mod32_lt _, r2, rfl⟩
theorem at_role {F : Nat} {s : PS} {R : Roles} (h : WFS F s R) {root at_ acc a : Nat} (hr : R root = some (root, 3, 0)) (ha : tbAt s.V F root at_ acc = some a) : ∃ i, R (a / 256) = some (root, 0, i) := by
  unfold tbAt at ha
  by_cases c : 8388608 ≤ at_
  · rw [if_pos c] at ha; cases ha
  · rw [if_neg c] at ha
    rcases opt_cases (tbLeaf s.V F root at_) with hl | ⟨x, hl⟩
    · rw [wk_none hl] at ha; cases ha
    · rw [wk_some hl] at ha
      obtain ⟨o, d⟩ := tbMay_some (Nat.mod_lt _ (by decide)) ha
      obtain ⟨b, i, k, hk, hb, rfl⟩ := leaf_role h hr hl
      have hk2 := kid_of_odd (show ent s.V b k % 2 = 1 from o)
      have r := (h.kid hb hk hk2).1
      rw [show ent s.V b k / 1024 = a / 256 from d.symm] at r
      exact ⟨_, r⟩
theorem adrs_role {F : Nat} {s : PS} {R : Roles} (h : WFS F s R) {root at_ acc : Nat} (hr : R root = some (root, 3, 0)) : ∀ n l, adrs s.V F root at_ acc n = some l → ∀ x ∈ l, ∃ i, R (x / 256) = some (root, 0, i) := by
  intro n
  induction n with
  | zero => intro l h x hx; cases h; cases hx
  | succ n ih =>
    intro l h2 x hx
    have h' : (adrs s.V F root at_ acc n).bind (fun l => (tbAt s.V F root ((at_ + n) % 18446744073709551616) acc).map fun a => l ++ [a]) = some l := h2
    rw [Option.bind_eq_some_iff] at h'
    obtain ⟨l1, h1, h3⟩ := h'
    rw [Option.map_eq_some_iff] at h3
    obtain ⟨a, ha, rfl⟩ := h3
    rcases List.mem_append.1 hx with hx | hx
    · exact ih l1 h1 x hx
    · obtain rfl := List.mem_singleton.1 hx
      exact at_role h hr ha
theorem outV_same {V : Nat → Nat} {xs : List Nat} {s : ByteArray} {a : Nat} : ∀ n, n ≤ xs.length → a ∉ xs → outV V xs s n a = V a
  | 0, _, _ => rfl
  | n + 1, hn, ha => by
    show putV (outV V xs s n) (xs.getD n 0) 1 (fun _ => byt s n) a = _
    have e : xs.getD n 0 = xs[n]'(by omega) := by rw [List.getD, List.getElem?_eq_getElem (by omega)]; rfl
    have hne : a ≠ xs.getD n 0 := fun h => ha (by rw [h, e]; exact List.getElem_mem _)
    unfold putV
    rw [if_neg (by omega)]
    exact outV_same n (by omega) ha
theorem good_out {F : Nat} {s : PS} {R : Roles} (g : SG F s R) {root at_ : Nat} (hr : R root = some (root, 3, 0)) {ys : List Nat} {n : Nat} (b : ByteArray) (h : adrs s.V F root at_ 2 n = some ys) : SG F ⟨s.Fr, outV s.V ys b n⟩ R := by
  refine ⟨WF.congr (V := s.V) g.wf fun f r l i hf a ha => ?_, g.full⟩
  refine outV_same n (Nat.le_of_eq (adrs_len n ys h).symm) fun hm => ?_
  obtain ⟨i', e⟩ := adrs_role g.wf hr n ys h a hm
  rw [ha, hf] at e
  cases e
theorem good_copy {F : Nat} (hF : F ≤ 256) {s : PS} {R : Roles} (g : SG F s R) {root : Nat} (hr : R root = some (root, 3, 0)) (hc : (visT s.V 2 root 0 32).length + 1 ≤ s.left F) {s' : PS} (hs : cpAll F (s.top F) (s.take F) (visT (s.take F).V 2 root 0 32) = s') :
    ∃ R', SG F s' R' ∧ R' root = some (root, 3, 0) ∧ R' (s.top F) = some (s.top F, 3, 0) ∧ root ≠ s.top F ∧ cntN (hasB F R' (s.top F)) = cntN (hasB F R root) ∧ cntN (hasB F R' root) = cntN (hasB F R root) ∧ s'.left F + cntN (hasB F R root) = s.left F ∧ (∀ f x, R f = some x → R' f = some x) := by
  have h0 : 0 < s.left F := Nat.lt_of_lt_of_le (Nat.succ_pos _) hc
  have b := copy_begin g.wf g.full hr (by rw [← vis_count g.wf hr]; exact hc) h0
  obtain ⟨R', c⟩ := cp_all hF b
  have hall := c.all b
  rw [hs] at c
  have hsub := c.grow.sub
  obtain ⟨gn, hn, _, _⟩ := new_grow g.wf h0
  have hoth : hasB F (setR R (s.top F) (s.top F, 3, 0)) root = hasB F R root := hasB_set_other g.wf.lt (lst_lt h0) hn _ root 3 0 b.ne
  rw [hoth] at hall
  have hroot : hasB F R' root = hasB F R root := by
    rw [← hoth]
    funext l i
    apply Bool.eq_iff_iff.2
    rw [hasB_iff c.grow.wf.lt, hasB_iff b.wf.lt]
    exact ⟨fun ⟨f, hf⟩ => ⟨f, c.grow.oth f root l i b.ne hf⟩, fun ⟨f, hf⟩ => ⟨f, hsub _ _ hf⟩⟩
  have hcnt := c.grow.cnt
  rw [b.one, congrArg cntN hall] at hcnt
  have hl := PS.left_take h0
  exact ⟨R', ⟨c.grow.wf, c.full⟩, hsub _ _ b.hroot, hsub _ _ b.hto, b.ne, congrArg cntN hall, congrArg cntN hroot, by omega, fun f x h => hsub _ _ (gn.sub _ _ h)⟩
theorem good_off {F : Nat} {s : PS} {R : Roles} (g : SG F s R) (r : Nat) : SG F (s.off R r) (offR R r) ∧ ∀ f x, R f = some x → x.1 ≠ r → offR R r f = some x := by
  have hon : ∀ f x, R f = some x → x.1 ≠ r → offR R r f = some x := fun f x hx hr => by
    have : ownR R r f = false := by unfold ownR; rw [hx]; simpa using hr
    unfold offR; rw [this]; exact hx
  refine ⟨⟨off_wf g.wf r, fun f r' l i hf hl => ?_⟩, hon⟩
  unfold offR at hf
  by_cases e : ownR R r f = true
  · rw [if_pos e] at hf; cases hf
  · rw [if_neg e] at hf
    have hne : r' ≠ r := fun e2 => e (ownR_iff.2 ⟨l, i, e2 ▸ hf⟩)
    obtain ⟨g', p, h1, h2⟩ := g.full f r' l i hf hl
    exact ⟨g', p, hon _ _ h1 hne, h2⟩
end Go.Proofs.YtodjmfmenfncdaaGreat

namespace Go.Proofs.YtodjmfmenfncdaaGreat
open Go.RowKit

def z0 : PS := ⟨frAll 0 16, fun _ => 0⟩
def z1 : PS := z0.take 16
def z2 : PS := (mapS 16 z1 0 1 23).1
def z3 : PS := (mapS 16 z2 0 2 23).1
def zw : ByteArray := ⟨#[97, 98, 99, 100, 101, 102, 103, 104, 105, 106, 107, 108]⟩
def zys : List Nat := [1012, 1013, 1014, 1015, 1016, 1017, 1018, 1019, 1020, 1021, 1022, 1023]
def z4 : PS := ⟨z3.Fr, outV z3.V zys zw 12⟩
def zv : List (Int × Nat) := [(1, 3 * 1024 + 23), (2, 4 * 1024 + 23), (-1, 2 * 1024 + 1), (-1, 1 * 1024 + 1)]
def z5 : PS := cpAll 16 (z4.top 16) (z4.take 16) zv
theorem z_top0 : z0.top 16 = 0 := by decide +kernel
theorem z_left0 : z0.left 16 = 16 := by decide +kernel
theorem z_map1 : (mapS 16 z1 0 1 23).2 = 0 := by decide +kernel
theorem z_map2 : (mapS 16 z2 0 2 23).2 = 0 := by decide +kernel
theorem z_out : adrs z3.V 16 0 500 2 12 = some zys := by decide +kernel
theorem z_out2 : adrs z4.V 16 0 760 2 12 = none := by decide +kernel
theorem z_vis4 : visT z4.V 2 0 0 32 = zv := by decide +kernel
theorem z_left4 : z4.left 16 = 11 := by decide +kernel
theorem z_top4 : z4.top 16 = 5 := by decide +kernel
theorem z_vis4' : visT (z4.take 16).V 2 0 0 32 = zv := by decide +kernel
theorem z_left5 : z5.left 16 = 6 := by decide +kernel
theorem z_in5 : adrs z5.V 16 5 510 1 3 = some [2302, 2303, 2304] := by decide +kernel
theorem z_ins : inS z5.V [2302, 2303, 2304] = [107, 108, 0] := by decide +kernel
theorem z_vis5 : visT z5.V 2 0 0 32 = zv := by decide +kernel
end Go.Proofs.YtodjmfmenfncdaaGreat

namespace Go.Proofs.YtodjmfmenfncdaaGreat
open Go.RowKit

theorem StepS.toT {B : Nat} {w : World} {p F t : Nat} {V : Nat → Nat} (ht : t < 18446744073709551616) (h : MS B w p F V t) : MT B w p F V := ⟨t, ht, h⟩
abbrev SP (B : Nat) (W : World) (q p F : Nat) (s : PS) : Prop := Pl (fun k => k < B) W q p F 0 s.Fr s.V
abbrev SStep (B : Nat) (W : World) (q p F : Nat) (s : PS) (v : Value) (e : Ending) (w' : World) : Prop := StepF (fun k => k < B) W q p F 0 s.Fr s.V v e w'

set_option maxRecDepth 100000 in
set_option maxHeartbeats 1600000 in
theorem shown_walk {w : World} {B : Nat} (hB : w.heap.size = B) (s0 s1 s2 s3 s4 s5 s6 : PS) (hfr : frAll 0 16 = s0.Fr) (hV : (fun _ => 0) = s0.V)
    (KN : ∀ W q, SP B W q B 16 s0 → Calls Tryz.prog 20 #[.pointer (some ⟨q, 0, none⟩)] W (SStep B W q B 16 s1 (.tuple #[.int .i64 0, .int .i64 0])))
    (KM1 : ∀ W q, SP B W q B 16 s1 → Calls Tryz.prog 21 #[.pointer (some ⟨q, 0, none⟩), .int .i64 0, .int .i64 1, .int .u64 23] W (SStep B W q B 16 s2 (.int .i64 0)))
    (KM2 : ∀ W q, SP B W q B 16 s2 → Calls Tryz.prog 21 #[.pointer (some ⟨q, 0, none⟩), .int .i64 0, .int .i64 2, .int .u64 23] W (SStep B W q B 16 s3 (.int .i64 0)))
    (KO1 : ∀ W q, SP B W q B 16 s3 → Calls Tryz.prog 17 #[.pointer (some ⟨q, 0, none⟩), .int .i64 0, .int .u64 500, .string ⟨#[97, 98, 99, 100, 101, 102, 103, 104, 105, 106, 107, 108]⟩] W (SStep B W q B 16 s4 (.int .i64 0)))
    (KO2 : ∀ W q, SP B W q B 16 s4 → Calls Tryz.prog 17 #[.pointer (some ⟨q, 0, none⟩), .int .i64 0, .int .u64 760, .string ⟨#[97, 98, 99, 100, 101, 102, 103, 104, 105, 106, 107, 108]⟩] W (SStep B W q B 16 s4 (.int .i64 3)))
    (KC : ∀ W q, SP B W q B 16 s4 → Calls Tryz.prog 22 #[.pointer (some ⟨q, 0, none⟩), .int .i64 0] W (SStep B W q B 16 s5 (.tuple #[.int .i64 5, .int .i64 0])))
    (KI : ∀ W q, SP B W q B 16 s5 → Calls Tryz.prog 10 #[.pointer (some ⟨q, 0, none⟩), .int .i64 5, .int .u64 510, .int .i64 3] W (SStep B W q B 16 s5 (.tuple #[.string ⟨#[107, 108, 0]⟩, .int .i64 0])))
    (KF : ∀ W q, SP B W q B 16 s5 → Calls Tryz.prog 23 #[.pointer (some ⟨q, 0, none⟩), .int .i64 0] W (SStep B W q B 16 s6 (.int .i64 0)))
    (KL : ∀ W q, SP B W q B 16 s6 → Calls Tryz.prog 11 #[.pointer (some ⟨q, 0, none⟩)] W (fun e w' => e = .returned (.int .i64 11) ∧ W = w')) :
    Calls Tryz.prog 6 #[] w fun e w' => e = .returned (.bool true) ∧ Below w.heap.size w w' := by
  have K0 := Lib.hid (s_new w.heap.size w (Nat.le_refl _) 16 (by omega) (by omega))
  have K1 := fun W (H : MT w.heap.size W w.heap.size 16 (fun _ => 0)) => f_new H (by omega) 0 (by omega)
  rw [show (16 : Int).toNat = 16 from rfl] at K0
  unfold NewF at K1
  rw [hfr, hV, show ((0 : Nat) : Int) = 0 from rfl] at K1
  rw [hB] at K0 K1
  have OLD := Lib.hid (fun (W W' : World) (h : Chg (fun k => ¬ k < B) W W') (hs : B ≤ W.heap.size) => h.below hs (fun _ h => Nat.le_of_not_lt h))
  have HB := Lib.hid (Nat.le_of_eq hB.symm)
  have ADV := Lib.hid (fun (W W' : World) (h : Below B w W) (c : Chg (fun k => ¬ k < B) W W') => h.trans (OLD.out W W' c (Nat.le_trans HB.out h.size)))
  have HV := Lib.hid hV
  have HBE := Lib.hid hB
  have K1 := Lib.hid K1; have KN := Lib.hid KN; have KM1 := Lib.hid KM1; have KM2 := Lib.hid KM2; have KO1 := Lib.hid KO1; have KO2 := Lib.hid KO2; have KC := Lib.hid KC; have KI := Lib.hid KI; have KF := Lib.hid KF; have KL := Lib.hid KL
  rw [hB]
  clear hfr hV hB
  go_enter Tryz.func6, Tryz.ntmps6
  go_wp2_with fail
  refine K0.out.mono ?_
  rintro e w1 ⟨rfl, m1, b1⟩
  have M1 := Lib.hid (StepS.toT (by omega) m1); have B1 := Lib.hid b1; clear m1 b1
  rw [HV.out] at M1
  go_wp2_with fail
  refine (K1.out w1 M1.out).mono ?_
  rintro e w2 ⟨q, rfl, m1, b1⟩
  have M2 := Lib.hid m1; have B2 := Lib.hid (B1.out.trans b1); clear m1 b1
  go_wp2_with fail
  refine (KN.out w2 q M2.out).mono ?_
  rintro e w3 ⟨rfl, m1, b1⟩
  have M3 := Lib.hid m1; have B3 := Lib.hid (ADV.out _ _ B2.out b1); clear m1 b1
  go_wp2_with fail
  refine (KM1.out w3 q M3.out).mono ?_
  rintro e w4 ⟨rfl, m1, b1⟩
  have M4 := Lib.hid m1; have B4 := Lib.hid (ADV.out _ _ B3.out b1); clear m1 b1
  go_wp2_with fail
  refine (KM2.out w4 q M4.out).mono ?_
  rintro e w5 ⟨rfl, m1, b1⟩
  have M5 := Lib.hid m1; have B5 := Lib.hid (ADV.out _ _ B4.out b1); clear m1 b1
  go_wp2_with fail
  refine (KO1.out w5 q M5.out).mono ?_
  rintro e w6 ⟨rfl, m1, b1⟩
  have M6 := Lib.hid m1; have B6 := Lib.hid (ADV.out _ _ B5.out b1); clear m1 b1
  go_wp2_with fail
  refine (KO2.out w6 q M6.out).mono ?_
  rintro e w7 ⟨rfl, m1, b1⟩
  have M7 := Lib.hid m1; have B7 := Lib.hid (ADV.out _ _ B6.out b1); clear m1 b1
  go_wp2_with fail
  refine (KC.out w7 q M7.out).mono ?_
  rintro e w8 ⟨rfl, m1, b1⟩
  have M8 := Lib.hid m1; have B8 := Lib.hid (ADV.out _ _ B7.out b1); clear m1 b1
  go_wp2_with fail
  refine (KI.out w8 q M8.out).mono ?_
  rintro e w9 ⟨rfl, m1, b1⟩
  have M9 := Lib.hid m1; have B9 := Lib.hid (ADV.out _ _ B8.out b1); clear m1 b1
  go_wp2_with fail
  refine (KF.out w9 q M9.out).mono ?_
  rintro e w10 ⟨rfl, m1, b1⟩
  have M10 := Lib.hid m1; have B10 := Lib.hid (ADV.out _ _ B9.out b1); clear m1 b1
  go_wp2_with fail
  refine (KL.out w10 q M10.out).mono ?_
  rintro e w' ⟨rfl, rfl⟩
  go_wp2_with fail
  go_ret
  exact ⟨rfl, B10.out⟩
end Go.Proofs.YtodjmfmenfncdaaGreat

namespace Go.Proofs.YtodjmfmenfncdaaGreat
open Go.RowKit

theorem nat0 : ((0 : Nat) : Int) = 0 := rfl
theorem nat1 : ((1 : Nat) : Int) = 1 := rfl
theorem nat2 : ((2 : Nat) : Int) = 2 := rfl
theorem nat3 : ((3 : Nat) : Int) = 3 := rfl
theorem nat5 : ((5 : Nat) : Int) = 5 := rfl
theorem nat23 : ((23 : Nat) : Int) = 23 := rfl
theorem nat11 : ((11 : Nat) : Int) = 11 := rfl
theorem nat500 : ((500 : Nat) : Int) = 500 := rfl
theorem nat510 : ((510 : Nat) : Int) = 510 := rfl
theorem nat760 : ((760 : Nat) : Int) = 760 := rfl
theorem z_n0 : z0.take 16 = z1 := rfl
theorem z_m1 : (mapS 16 z1 0 1 23).1 = z2 := rfl
theorem z_m2 : (mapS 16 z2 0 2 23).1 = z3 := rfl
theorem z_c5 : cpAll 16 (z4.top 16) (z4.take 16) (visT (z4.take 16).V 2 0 0 32) = z5 := by rw [z_vis4']; rfl
theorem z_F : (16 : Nat) ≤ 256 := by decide
theorem z_len : zv.length = 4 := rfl
theorem z_o4 : (⟨z3.Fr, outV z3.V zys zw 12⟩ : PS) = z4 := rfl
theorem zw_size : zw.size = 12 := rfl
theorem SStep.of {B : Nat} {W : World} {q p F : Nat} {s s' : PS} {v : Value} (h : s = s') {P : Program} {f : FuncId} {args : Array Value} (c : Calls P f args W (StepF (fun k => k < B) W q p F 0 s.Fr s.V v)) : Calls P f args W (SStep B W q p F s' v) := by subst h; exact c
theorem SStep.of2 {B : Nat} {W : World} {q p F : Nat} {s' : PS} {Fr : Nat → Bool} {V : Nat → Nat} {v : Value} (h : (⟨Fr, V⟩ : PS) = s') {P : Program} {f : FuncId} {args : Array Value} (c : Calls P f args W (StepF (fun k => k < B) W q p F 0 Fr V v)) : Calls P f args W (SStep B W q p F s' v) := by subst h; exact c
structure Chain (R1 R2 R3 R5 : Roles) : Prop where
  g1 : SG 16 z1 R1
  r1 : R1 0 = some (0, 3, 0)
  g2 : SG 16 z2 R2
  r2 : R2 0 = some (0, 3, 0)
  g3 : SG 16 z3 R3
  r3 : R3 0 = some (0, 3, 0)
  g4 : SG 16 z4 R3
  g5 : SG 16 z5 R5
  r5 : R5 0 = some (0, 3, 0)
  t5 : R5 5 = some (5, 3, 0)
theorem chain : ∃ R1 R2 R3 R5, Chain R1 R2 R3 R5 := by
  have g0 : SG 16 z0 (fun _ => none) := good_start 16 _
  obtain ⟨g1, r1, _⟩ := good_new g0 (by rw [z_left0]; decide)
  rw [z_n0] at g1
  rw [z_top0] at g1 r1
  generalize setR (fun _ => none) 0 (0, 3, 0) = R1 at *
  obtain ⟨R2, g2, h2⟩ := good_map z_F g1 r1 (show 1 < 32768 by decide) (show 23 < 32 by decide) (show 23 % 2 = 1 by decide) z_m1
  obtain ⟨R3, g3, h3⟩ := good_map z_F g2 (h2 _ _ r1) (show 2 < 32768 by decide) (show 23 < 32 by decide) (show 23 % 2 = 1 by decide) z_m2
  have g4 := good_out g3 (h3 _ _ (h2 _ _ r1)) zw z_out
  rw [z_o4] at g4
  obtain ⟨R5, g5, r5, t5, _⟩ := good_copy z_F g4 (h3 _ _ (h2 _ _ r1)) (by rw [z_vis4, z_left4, z_len]; decide) z_c5
  rw [z_top4] at t5
  exact ⟨R1, R2, R3, R5, g1, r1, g2, h2 _ _ r1, g3, h3 _ _ (h2 _ _ r1), g4, g5, r5, t5⟩
theorem z_off (R5 : Roles) (g : SG 16 z5 R5) (r : R5 0 = some (0, 3, 0)) : (z5.off R5 0).left 16 = 11 := by
  rw [off_cntN g.wf, ← vis_count g.wf r, z_vis5, z_left5, z_len]
theorem z_ins' : inR z5.V (adrs z5.V 16 5 510 1 3) = .tuple #[.string ⟨#[107, 108, 0]⟩, .int .i64 0] := by
  rw [z_in5]
  show Value.tuple #[.string ⟨(inS z5.V [2302, 2303, 2304]).toArray⟩, .int .i64 0] = _
  rw [z_ins]
theorem sp_shown (w : World) : Calls Tryz.prog 6 #[] w fun e w' => e = .returned (.bool true) ∧ Below w.heap.size w w' := by
  obtain ⟨R1, R2, R3, R5, c⟩ := chain
  refine shown_walk (w := w) rfl z0 z1 z2 z3 z4 z5 (z5.off R5 0) rfl rfl (fun W q H => ?_) (fun W q H => ?_) (fun W q H => ?_) (fun W q H => ?_) (fun W q H => ?_) (fun W q H => ?_) (fun W q H => ?_) (fun W q H => ?_) (fun W q H => ?_)
  · have k := sp_new H z_F (by rw [z_left0]; decide)
    rw [z_top0, nat0] at k
    exact SStep.of z_n0 k
  · have k := sp_map H z_F c.g1.wf 0 1 23 c.r1 (by omega) (by omega) (by omega)
    rw [z_map1, nat0, nat1, nat23] at k
    exact SStep.of z_m1 k
  · have k := sp_map H z_F c.g2.wf 0 2 23 c.r2 (by omega) (by omega) (by omega)
    rw [z_map2, nat0, nat2, nat23] at k
    exact SStep.of z_m2 k
  · have k := sp_out_yes H z_F c.g3.wf 0 c.r3 500 zw (by rw [zw_size]; omega) zys (by rw [zw_size]; exact z_out)
    rw [zw_size, nat0, nat500] at k
    exact SStep.of2 z_o4 k
  · have k := sp_out_no H z_F c.g4.wf 0 c.r3 760 zw (by rw [zw_size]; omega) (by rw [zw_size]; exact z_out2)
    rw [nat0, nat760] at k
    exact k
  · have k := sp_copy_yes H z_F c.g4.wf c.g4.full 0 c.r3 (by rw [z_vis4, z_left4, z_len]; decide) (z_c5.trans (ps_eta z5))
    rw [z_top4, nat0, nat5] at k
    exact k
  · have k := sp_in H z_F c.g5.wf 5 c.t5 510 3 (by omega)
    rw [z_ins', nat5, nat510, nat3] at k
    exact k
  · have k := sp_free H z_F c.g5.wf 0 c.r5
    rw [nat0] at k
    exact k
  · have k := f_leftS H
    rw [z_off R5 c.g5 c.r5, nat11] at k
    exact k
end Go.Proofs.YtodjmfmenfncdaaGreat
