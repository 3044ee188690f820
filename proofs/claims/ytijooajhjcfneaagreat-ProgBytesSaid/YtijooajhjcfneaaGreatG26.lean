/-
  Several texts in one: PgNeed, PgFill, PgFill2, PgShape.
-/
import Derived.Test.YtijooajhjcfneaaGreatG25
namespace Go.Proofs.YtijooajhjcfneaaGreat
open Go.RowKit Go.Maps

abbrev TmT : TypeId := 130
/-- the tables that are noted: 1, perhaps, and 0, perhaps -/
def NeedD (D : DataW Unit) (a b : Bool) : Prop := Tidy D ∧ (∀ f : Nat, Maps.has D (.int .i64 (f : Int)) = ((decide (f = 1) && a) || (decide (f = 0) && b))) ∧ Maps.size D = (if a then 1 else 0) + (if b then 1 else 0)
theorem NeedD.none : NeedD (.map []) false false := ⟨tidy_empty, fun f => by simp [Maps.has], rfl⟩
theorem NeedD.one {D : DataW Unit} {a b : Bool} (h : NeedD D a b) (d : DataW Unit) : NeedD (D.put (.int .i64 ((1 : Nat) : Int)) d) true b := by
  obtain ⟨t, hh, hs⟩ := h
  refine ⟨t.put (isKeyInt _) d, fun g => ?_, ?_⟩
  · by_cases e : g = 1
    · subst e
      rw [has_put_same t.isMap (isKeyInt _)]; simp
    · rw [has_put_other (by intro h; cases h; omega), hh g]; simp [e]
  · rw [size_put t, hh 1, hs]
    cases a <;> cases b <;> rfl
theorem NeedD.zero {D : DataW Unit} {a b : Bool} (h : NeedD D a b) (d : DataW Unit) : NeedD (D.put (.int .i64 ((0 : Nat) : Int)) d) a true := by
  obtain ⟨t, hh, hs⟩ := h
  refine ⟨t.put (isKeyInt _) d, fun g => ?_, ?_⟩
  · by_cases e : g = 0
    · subst e
      rw [has_put_same t.isMap (isKeyInt _)]; simp
    · rw [has_put_other (by intro h; cases h; omega), hh g]; simp [e]
  · rw [size_put t, hh 0, hs]
    cases a <;> cases b <;> rfl
theorem NeedD.small {D : DataW Unit} {a b : Bool} (h : NeedD D a b) : Maps.size D < maxLen := by
  rw [h.2.2]
  unfold maxLen
  cases a <;> cases b <;> simp
def NeedM (w0 : World) (a b : Bool) (W : World) : Prop := (∃ D : DataW Unit, W.ownsMap Tryz.prog InT (plainElem Tryz.prog 4) w0.heap.size (Maps.size D) D ∧ NeedD D a b) ∧ Chg (fun _ => False) w0 W
theorem NeedM.start (w0 : World) : NeedM w0 false false (w0.alloc (.map #[] 0)) := ⟨⟨.map [], World.ownsMap_made _ _ _ _, NeedD.none⟩, (Chg.refl _ _).alloc _⟩
set_option maxRecDepth 100000 in
set_option maxHeartbeats 1600000 in
theorem p_need (w : World) (n : Nat) (h1 : 1 ≤ n) (h2 : n ≤ 28) :
    Calls Tryz.prog 27 #[.int .i64 n] w fun e w' => e = .returned (.int .i64 ((n + 12 : Nat) : Int)) ∧ Chg (fun _ => False) w w' := by
  have hmm := @run_makeMap Tryz.prog
  have M0 := Lib.hid (NeedM.start w)
  have hkey1 : keyOf Tryz.prog InT (.int .i64 1) = some (.int .i64 1) := keyOf_int_mk Tryz.underlying3 (WalkArith.wf_i64 (by omega))
  have hkey0 : keyOf Tryz.prog InT (.int .i64 0) = some (.int .i64 0) := keyOf_int_mk Tryz.underlying3 (WalkArith.wf_i64 (by omega))
  go_enter Tryz.func27, Tryz.ntmps27
  go_wp2_with fail
  go_loopw [7] (fun i wr => ∃ (k : Nat) (W' : World), W' = wr ∧ k ≤ 8 ∧ i = .int .i64 k ∧ Hid (NeedM w (decide (0 < k)) false W')) (fun i _ => 8 - (intOf i).toNat)
  case atStart => exact ⟨0, _, rfl, Nat.zero_le _, rfl, M0⟩
  case round =>
    obtain ⟨k, wr, rfl, hk, rfl, HR⟩ := hrel
    by_cases hlt : k < 8
    · have d1 : decide ((k : Int) < (8 : Int)) = true := decide_eq_true (by omega)
      have q1 : ((63 : Int) - (k : Int)) / 32 = 1 := by omega
      have q2 : ((63 : Int) - (k : Int)).tdiv 32 = 1 := by rw [Int.tdiv_eq_ediv_of_nonneg (by omega)]; omega
      have w1 : wrap64 ((63 : Int) - (k : Int)) = 63 - (k : Int) := by unfold wrap64; omega
      obtain ⟨⟨D, hown, hD⟩, hc⟩ := HR.out
      have hn : Maps.size D < maxLen := NeedD.small hD
      have HD := Lib.hid hD.one
      have HC := Lib.hid hc
      have e9 : decide (0 < k + 1) = true := decide_eq_true (by omega)
      clear hD hc
      go_wp2_with (at_mapUpdate; refine wpList_mapUpdate_own _ rfl _ _ _ TmT rfl InT 4 lawInt Tryz.underlying130 (plainElem Tryz.prog 4) w.heap.size (Maps.size D) D rfl hown hn _ _ _ rfl rfl hkey1 (.lit (.bool true)) [] (plainElem_bool Tryz.underlying4 true) ?_; intro w2 hown2 hgrow2; have N2 := Lib.hid (show NeedM w true false w2 from ⟨⟨_, owns_tight hown2, HD.out _⟩, HC.out.trans' (grown_chg hgrow2) (fun i h => .inr (Nat.le_of_eq h.symm))⟩); clear hgrow2 hown2 hown)
      go_roundw
      case rel => exact ⟨k + 1, _, rfl, by omega, by go_num, by rw [e9]; exact N2⟩
      case measure => simp [intOf]; omega
    · obtain rfl : k = 8 := by omega
      have HR1 := Lib.hid (show NeedM w true false wr from HR.out)
      clear hlt HR
      rw [show ((8 : Nat) : Int) = 8 from rfl]
      go_wp2_with fail
      go_loopw [16] (fun i W => ∃ (k : Nat) (W' : World), W' = W ∧ k ≤ n ∧ i = .int .i64 k ∧ Hid (NeedM w true (decide (0 < k)) W')) (fun i _ => n - (intOf i).toNat)
      case atStart => exact ⟨0, _, rfl, Nat.zero_le _, rfl, HR1⟩
      case round =>
        obtain ⟨k, wj, rfl, hk2, rfl, HJ⟩ := hrel
        by_cases hlt : k < n
        · have d1 : decide ((k : Int) < (n : Int)) = true := decide_eq_true (by omega)
          have q1 : ((1 : Int) + (k : Int)) / 32 = 0 := by omega
          have q2 : ((1 : Int) + (k : Int)).tdiv 32 = 0 := by rw [Int.tdiv_eq_ediv_of_nonneg (by omega)]; omega
          have w1 : wrap64 ((1 : Int) + (k : Int)) = 1 + (k : Int) := by unfold wrap64; omega
          obtain ⟨⟨D, hown, hD⟩, hc⟩ := HJ.out
          have hn : Maps.size D < maxLen := NeedD.small hD
          have HD := Lib.hid hD.zero
          have HC := Lib.hid hc
          have e9 : decide (0 < k + 1) = true := decide_eq_true (by omega)
          clear hD hc
          go_wp2_with (at_mapUpdate; refine wpList_mapUpdate_own _ rfl _ _ _ TmT rfl InT 4 lawInt Tryz.underlying130 (plainElem Tryz.prog 4) w.heap.size (Maps.size D) D rfl hown hn _ _ _ rfl rfl hkey0 (.lit (.bool true)) [] (plainElem_bool Tryz.underlying4 true) ?_; intro w2 hown2 hgrow2; have N2 := Lib.hid (show NeedM w true true w2 from ⟨⟨_, owns_tight hown2, HD.out _⟩, HC.out.trans' (grown_chg hgrow2) (fun i h => .inr (Nat.le_of_eq h.symm))⟩); clear hgrow2 hown2 hown)
          go_roundw
          case rel => exact ⟨k + 1, _, rfl, by omega, by go_num, by rw [e9]; exact N2⟩
          case measure => simp [intOf]; omega
        · obtain rfl : k = n := by omega
          have e9 : decide (0 < k) = true := decide_eq_true (by omega)
          rw [e9] at HJ
          obtain ⟨⟨D, hown, hD⟩, hc⟩ := HJ.out
          have hsz : Maps.size D = 2 := hD.2.2
          have HC := Lib.hid hc
          clear hD hc hlt HJ
          go_wp2_with (at_len; refine wpList_len_own _ rfl _ TmT rfl InT 4 Tryz.underlying130 (plainElem Tryz.prog 4) w.heap.size (Maps.size D) D rfl hown ?_)
          go_ret
          exact ⟨congrArg (fun y : Int => Ending.returned (.int .i64 y)) (show (k : Int) + 8 + 2 + 2 = ((k + 12 : Nat) : Int) by omega), HC.out⟩
end Go.Proofs.YtijooajhjcfneaaGreat

namespace Go.Proofs.YtijooajhjcfneaaGreat
open Go.RowKit

/-- while a space is being filled: Q is what it will be -/
structure FI (F root : Nat) (Q : Nat → Nat → Bool) (s : PS) (R : Roles) : Prop where
  g : SG F s R
  r : R root = some (root, 3, 0)
  q : ∀ l j, hasB F R root l j = true → Q l j = true
  n : cntN Q ≤ s.left F + cntN (hasB F R root)
/-- a page that was mapped: its frame g, its entry in the table t -/
structure PgAt (F root i bits : Nat) (s ms : PS) (R R' : Roles) (t g : Nat) : Prop where
  map : mapS F s root i bits = (ms, 0)
  tlt : t < F
  glt : g < F
  leaf : tbLeaf ms.V F root (i * 256) = some (t * 256 + 8 * pt i 0)
  ent : ent ms.V t (pt i 0) = g * 1024 + bits
  lf : leafF ms.V root i = g
  role : R' g = some (root, 0, i)
  trole : R' t = some (root, 1, i / 32)
  zero : ∀ a, a / 256 = g → ms.V a = 0
  has : ∃ l, l ≤ 2 ∧ ∀ l' i', hasB F R' root l' i' = (hasB F R root l' i' || (decide (l' ≤ l) && decide (i' = i / 32 ^ l')))
  grow : Grow F s R ms R' root
/-- bytes of a page turn nothing else -/
theorem put_good {F root i g n : Nat} {ms : PS} {R' : Roles} {U : Nat → Nat} (h : SG F ms R') (hg : R' g = some (root, 0, i)) (hn : n ≤ 256) : SG F ⟨ms.Fr, putV ms.V (g * 256) n U⟩ R' := by
  refine ⟨h.wf.congr fun f r l j hf a ha => ?_, h.full⟩
  have hne : ¬ (g * 256 ≤ a ∧ a < g * 256 + n) := by
    intro hc
    have : a / 256 = g := by omega
    rw [← ha, this, hg] at hf
    cases hf
  show (if g * 256 ≤ a ∧ a < g * 256 + n then _ else ms.V a) = ms.V a
  exact if_neg hne
theorem FI.step {F root i bits : Nat} {Q : Nat → Nat → Bool} {s : PS} {R : Roles} (hF : F ≤ 256) (h : FI F root Q s R) (hi : i < 32768) (hb : bits < 32) (hb1 : bits % 2 = 1) (hnew : hasB F R root 0 i = false) (hq : ∀ l, l ≤ 2 → Q l (i / 32 ^ l) = true) :
    ∃ ms R' t g, PgAt F root i bits s ms R R' t g ∧ ∀ (n : Nat) (U : Nat → Nat), n ≤ 256 → FI F root Q ⟨ms.Fr, putV ms.V (g * 256) n U⟩ R' := by
  obtain ⟨dl, dno⟩ := deep_no h.g.wf h.r hi hnew
  have hlack : (deep s.V i 2 root).1 + 1 ≤ s.left F := by
    have k := cntN_lack hi dl dno h.q (fun l hl => hq l (by omega))
    have := h.n
    omega
  rcases mapS_cases hF h.g.wf h.g.full h.r hi hb hb1 with ⟨_, h2⟩ | ⟨_, _, h3⟩ | ⟨_, h2, R', l, hl, m, hfull, _, _⟩
  · rw [hnew] at h2; cases h2
  · exact absurd h3 (Nat.not_lt.2 hlack)
  · obtain ⟨ms, hms⟩ : ∃ ms, (mapS F s root i bits).1 = ms := ⟨_, rfl⟩
    have hmap : mapS F s root i bits = (ms, 0) := Prod.ext hms h2
    rw [hms] at m
    have hR' := m.grow.wf
    have hp0 : i / 32 ^ 0 = i := by rw [Nat.pow_zero, Nat.div_one]
    have hhas : hasB F R' root 0 i = true := by rw [m.has, hp0, decide_eq_true (Nat.zero_le l)]; simp
    obtain ⟨g, hg⟩ := (hasB_iff hR'.lt _ _ _).1 hhas
    obtain ⟨t, ht, q1, q2, q3⟩ := leaf_at hR' (m.grow.sub _ _ h.r) hi hg
    have hg0 : R g = none ∧ (∀ a, a / 256 = g → ms.V a = 0) ∧ ∃ t', R' t' = some (root, 1, i / 32) ∧ ent ms.V t' (i % 32) = g * 1024 + bits := by
      rcases m.fresh g i hg with e | ⟨_, e1, e2, e3⟩
      · have := (hasB_iff h.g.wf.lt root 0 i).2 ⟨g, e⟩
        rw [hnew] at this
        cases this
      · exact ⟨e1, e2, e3⟩
    obtain ⟨_, hz, t', ht', he'⟩ := hg0
    have htt : t = t' := hR'.inj _ _ _ ht ht'
    subst htt
    have hpt : pt i 0 = i % 32 := by unfold pt; rw [Nat.pow_zero, Nat.div_one]
    refine ⟨ms, R', t, g, ⟨hmap, hR'.lt _ _ ht, hR'.lt _ _ hg, q1, by rw [hpt]; exact he', by unfold leafF; rw [q2]; exact (kid_some q3).2, hg, ht, hz, ⟨l, hl, m.has⟩, m.grow⟩, fun n U hn => ⟨put_good ⟨hR', hfull⟩ hg hn, m.grow.sub _ _ h.r, fun l' j hj => ?_, ?_⟩⟩
    · rw [m.has] at hj
      rw [Bool.or_eq_true] at hj
      rcases hj with hj | hj
      · exact h.q _ _ hj
      · rw [Bool.and_eq_true] at hj
        have h5 := hj
        have h6 := of_decide_eq_true h5.1
        have h7 := of_decide_eq_true h5.2
        rw [h7]
        exact hq l' (by omega)
    · have e : (⟨ms.Fr, putV ms.V (g * 256) n U⟩ : PS).left F = ms.left F := rfl
      rw [e, m.grow.cnt]
      exact h.n
end Go.Proofs.YtijooajhjcfneaaGreat

namespace Go.Proofs.YtijooajhjcfneaaGreat
open Go.RowKit

/-- a page that is mapped, and bytes put into it -/
def flS (F root : Nat) (s : PS) (i bits : Nat) (c : ByteArray) : PS := ⟨(mapS F s root i bits).1.Fr, putV (mapS F s root i bits).1.V (leafF (mapS F s root i bits).1.V root i * 256) c.size (byt c)⟩
/-- the k-th page's bytes -/
def chB (str : ByteArray) (k : Nat) : ByteArray := str.extract (min (k * 256) str.size) (min (min (k * 256) str.size + 256) str.size)
theorem chB_size (str : ByteArray) (k : Nat) : (chB str k).size ≤ 256 := by unfold chB; rw [ByteArray.size_extract]; omega
def flN (F root page bits : Nat) (str : ByteArray) (s : PS) : Nat → PS
  | 0 => s
  | k + 1 => flS F root (flN F root page bits str s k) (page + k) bits (chB str k)
theorem flS_at {F root i bits t g : Nat} {s ms : PS} {R R' : Roles} (h : PgAt F root i bits s ms R R' t g) (c : ByteArray) : flS F root s i bits c = ⟨ms.Fr, putV ms.V (g * 256) c.size (byt c)⟩ := by
  unfold flS
  rw [h.map]
  show (⟨ms.Fr, putV ms.V (leafF ms.V root i * 256) c.size (byt c)⟩ : PS) = _
  rw [h.lf]
/-- what fill's calls answer, for a page -/
structure F2 (S : Nat → Prop) (q p F root i bits x g ef : Nat) (c : ByteArray) (s ms s2 : PS) : Prop where
  ilt : i < 32768
  glt : g < 256
  km : ∀ W, Pl S W q p F 0 s.Fr s.V → Calls Tryz.prog 55 #[.pointer (some ⟨q, 0, none⟩), .int .i64 root, .int .i64 i, .int .u64 bits] W (StepF S W q p F 0 ms.Fr ms.V (.int .i64 0))
  kl : ∀ W, Pl S W q p F 0 ms.Fr ms.V → Calls Tryz.prog 56 #[.pointer (some ⟨p, 0, none⟩), .int .i64 root, .int .u64 ((i * 256 : Nat) : Int)] W (StepF S W q p F 0 ms.Fr ms.V (.tuple #[.int .u64 (x : Nat), .int .i64 0]))
  ke : ∀ W, Pl S W q p F 0 ms.Fr ms.V → Calls Tryz.prog 57 #[.pointer (some ⟨p, 0, none⟩), .int .u64 (x : Nat), .int .i64 8] W (StepF S W q p F 0 ms.Fr ms.V (.tuple #[.int .u64 (ef : Nat), .int .i64 0]))
  kf : ∀ W, Calls Tryz.prog 58 #[.int .u64 (ef : Nat)] W fun r w' => r = .returned (.int .u64 (g : Nat)) ∧ W = w'
  kp : ∀ W, Pl S W q p F 0 ms.Fr ms.V → Calls Tryz.prog 44 #[.pointer (some ⟨p, 0, none⟩), .int .u64 ((g * 256 : Nat) : Int), .string c] W (StepF S W q p F 0 s2.Fr s2.V (.int .i64 0))
theorem F2.of {S : Nat → Prop} {q p F root i bits t g : Nat} {s ms : PS} {R R' : Roles} (hF : F ≤ 256) (hi : i < 32768) (hb : bits < 32) (hb1 : bits % 2 = 1) (hW : WFS F s R) (hr : R root = some (root, 3, 0)) (h : PgAt F root i bits s ms R R' t g) (c : ByteArray) (hc : c.size ≤ 256) :
    F2 S q p F root i bits (t * 256 + 8 * pt i 0) g (ent ms.V t (pt i 0)) c s ms ⟨ms.Fr, putV ms.V (g * 256) c.size (byt c)⟩ := by
  have hg := h.glt
  have hbd : ent ms.V t (pt i 0) / 1024 = g := by rw [h.ent]; omega
  refine ⟨hi, Nat.lt_of_lt_of_le hg hF, fun W H => ?_, fun W H => lfR_some (hW.lt _ _ hr) hi h.leaf ▸ f_lf H hF (root : Int) (i * 256), fun W H => f_load8 H hF (t * 256 + 8 * pt i 0) (by have := h.tlt; have := pt_lt i 0; omega) _ rfl, fun W => ?_, fun W H => ?_⟩
  · have k := sp_map H hF hW root i bits hr hi hb hb1
    rw [h.map] at k
    exact k
  · have k := tb_frame W _ (ent_lt ms.V t (pt i 0))
    rw [hbd] at k
    exact k
  · have k := f_put H hF (g * 256) (by omega) c (by unfold maxLen; omega)
    have e : cdP F (g * 256) c = 0 := by unfold cdP; rw [if_pos (by omega)]
    have e2 : ptV F ms.V (g * 256) c = putV ms.V (g * 256) c.size (byt c) := by unfold ptV; rw [if_pos e]
    rw [e, e2] at k
    exact k
theorem put_name : True := trivial
/-- between the pages -/
structure FlI (S : Nat → Prop) (w0 : World) (q p F root page k : Nat) (Q : Nat → Nat → Bool) (R0 : Roles) (s : PS) (W : World) : Prop where
  st : ∃ R, FI F root Q s R ∧ (∀ j, hasB F R root 0 j = (hasB F R0 root 0 j || decide (page ≤ j ∧ j < page + k)))
  pl : Pl S W q p F 0 s.Fr s.V
  chg : Chg (fun k => ¬ S k) w0 W
theorem fill_nums (k L : Nat) (hk : k ≤ 100) (hL : L ≤ 4096) : wrap64 ((k : Int) * 256) = ((k * 256 : Nat) : Int) ∧ IntKind.i64.wrap ((k : Int) * 256) = ((k * 256 : Nat) : Int) := ⟨by unfold wrap64; omega, i64_wrap_eq (by omega) (by omega)⟩
theorem fn1 (page k : Nat) (h : page + k ≤ 1000) : wrap64 ((page : Int) + (k : Int)) = ((page + k : Nat) : Int) := by unfold wrap64; omega
theorem fn2 (page k : Nat) (h : page + k ≤ 1000) : IntKind.i64.wrap ((page : Int) + (k : Int)) = ((page + k : Nat) : Int) := i64_wrap_eq (by omega) (by omega)
theorem fn3 (fr : Nat) (h : fr ≤ 4096) : wrap64 ((fr : Int) + 256) = (fr : Int) + 256 := by unfold wrap64; omega
theorem fn4 (fr : Nat) (h : fr ≤ 4096) : IntKind.i64.wrap ((fr : Int) + 256) = (fr : Int) + 256 := i64_wrap_eq rfl (by omega)
theorem fn5 (g : Nat) (h : g < 256) : IntKind.u64.wrap ((g : Int) * 256) = ((g * 256 : Nat) : Int) := by rw [u64_wrap]; omega
theorem fn6 (k L fr te : Nat) (hfr : fr = min (k * 256) L) (hto : te = min (fr + 256) L) (hL : L ≤ 4096) : fr ≤ 4096 ∧ (te : Int) ≤ (L : Int) ∧ (fr : Int) ≤ (te : Int) := by omega
set_option maxRecDepth 100000 in
set_option maxHeartbeats 1600000 in
theorem p_fill_round {S : Nat → Prop} {w : World} {q p F root page many bits : Nat} {str : ByteArray} {s s' : PS} {R : Roles} {Q : Nat → Nat → Bool} (h : Pl S w q p F 0 s.Fr s.V) (hF : F ≤ 256) (f : FI F root Q s R) (hm : many ≤ 100) (hpg : page + many ≤ 1000) (hb : bits < 32) (hb1 : bits % 2 = 1) (hL : str.size ≤ 4096)
    (hnew : ∀ k, k < many → hasB F R root 0 (page + k) = false) (hq : ∀ k, k < many → ∀ l, l ≤ 2 → Q l ((page + k) / 32 ^ l) = true) (hs : flN F root page bits str s many = s') :
    Calls Tryz.prog 29 #[.pointer (some ⟨q, 0, none⟩), .int .i64 root, .int .i64 page, .int .i64 many, .int .u64 bits, .string str] w fun e w' => e = .returned (.int .i64 0) ∧ FlI S w q p F root page many Q R s' w' := by
  have M0 := Lib.hid (show FlI S w q p F root page 0 Q R (flN F root page bits str s 0) w from ⟨⟨R, f, fun j => by rw [decide_eq_false (by omega)]; simp⟩, h, Chg.refl _ _⟩)
  have ROUND := Lib.hid (fun (k : Nat) (hk : k < many) (W : World) (H : FlI S w q p F root page k Q R (flN F root page bits str s k) W) => show ∃ x g ef ms, F2 S q p F root (page + k) bits x g ef (chB str k) (flN F root page bits str s k) ms (flN F root page bits str s (k + 1)) ∧ ∀ W', Pl S W' q p F 0 (flN F root page bits str s (k + 1)).Fr (flN F root page bits str s (k + 1)).V → Chg (fun k => ¬ S k) w W' → FlI S w q p F root page (k + 1) Q R (flN F root page bits str s (k + 1)) W' from by
    obtain ⟨⟨Rk, fk, hk2⟩, _, _⟩ := H
    have hn : hasB F Rk root 0 (page + k) = false := by rw [hk2, hnew k hk, decide_eq_false (by omega)]; rfl
    obtain ⟨ms, R', t, g, pa, nx⟩ := fk.step hF (by omega) hb hb1 hn (hq k hk)
    have e : flN F root page bits str s (k + 1) = ⟨ms.Fr, putV ms.V (g * 256) (chB str k).size (byt (chB str k))⟩ := flS_at pa _
    rw [e]
    refine ⟨_, g, _, ms, F2.of hF (by omega) hb hb1 fk.g.wf fk.r pa (chB str k) (chB_size _ _), fun W' hp hc => ⟨⟨R', nx _ _ (chB_size _ _), fun j => ?_⟩, hp, hc⟩⟩
    obtain ⟨l, _, hl⟩ := pa.has
    rw [hl, hk2, Nat.pow_zero, Nat.div_one, decide_eq_true (Nat.zero_le l), Bool.true_and, Bool.or_assoc]
    congr 1
    rw [← Bool.decide_or]
    apply Bool.eq_iff_iff.2
    rw [decide_eq_true_eq, decide_eq_true_eq]
    omega)
  have HS := Lib.hid hs
  have KMM := Lib.hid (fun (W : World) (s : PS) (H : Pl S W q p F 0 s.Fr s.V) => f_mem H)
  have HB := Lib.hid (And.intro hm (And.intro hpg hL))
  clear h f hb hb1 hnew hq hs hF hm hpg hL
  go_enter Tryz.func29, Tryz.ntmps29
  go_wp2_with fail
  go_loopw [21] (fun i wr => ∃ (k : Nat) (W' : World), W' = wr ∧ k ≤ many ∧ i = .int .i64 k ∧ Hid (FlI S w q p F root page k Q R (flN F root page bits str s k) W')) (fun i _ => many - (intOf i).toNat)
  case atStart => exact ⟨0, _, rfl, Nat.zero_le _, rfl, M0⟩
  case round =>
    obtain ⟨k, wr, rfl, hk, rfl, HR⟩ := hrel
    obtain ⟨hm, hpg, hL⟩ := HB.out
    by_cases hlt : k < many
    · have d1 : decide ((k : Int) < (many : Int)) = true := decide_eq_true (by omega)
      obtain ⟨x, g, ef, ms, F2h, NX⟩ := ROUND.out k hlt wr HR.out
      obtain ⟨i, hi⟩ : ∃ i, i = page + k := ⟨_, rfl⟩
      rw [← hi] at F2h
      obtain ⟨hi2, hg, KM, KL, KE, KF, KP⟩ := F2h
      have NX := Lib.hid NX
      generalize hs2 : flN F root page bits str s (k + 1) = s2 at *
      generalize flN F root page bits str s k = s1 at *
      have HS2 := Lib.hid hs2
      clear hs2
      obtain ⟨n1, n2, n3⟩ := page_wraps i hi2
      have ni := fn1 page k (by omega)
      have ni2 := fn2 page k (by omega)
      rw [← hi] at ni ni2
      obtain ⟨fr, hfr⟩ : ∃ fr, fr = min (k * 256) str.size := ⟨_, rfl⟩
      obtain ⟨te, hto⟩ : ∃ te, te = min (fr + 256) str.size := ⟨_, rfl⟩
      obtain ⟨u1, u2⟩ := fill_nums k str.size (by clear ni ni2 hfr hto; omega) hL
      have mn1 := fun W => run_min2 W (k * 256) str.size fr hfr
      have mn2 := fun W => run_min2 W (fr + 256) str.size te hto
      rw [show ((fr + 256 : Nat) : Int) = (fr : Int) + 256 from rfl] at mn2
      obtain ⟨b0, b1, b2⟩ := fn6 k str.size fr te hfr hto hL
      have u3 := fn3 fr b0
      have u4 := fn4 fr b0
      have b3 : (0 : Int) ≤ (fr : Int) := Int.natCast_nonneg fr
      have hch : chB str k = str.extract fr te := by unfold chB; rw [← hfr, ← hto]
      rw [hch] at KP
      have gw := fn5 g hg
      obtain ⟨y, hy⟩ : ∃ y, y = i * 256 := ⟨_, rfl⟩
      obtain ⟨z, hz⟩ : ∃ z, z = g * 256 := ⟨_, rfl⟩
      obtain ⟨kk, hkk⟩ : ∃ kk, kk = k * 256 := ⟨_, rfl⟩
      rw [← hy] at n3 KL
      rw [n3] at n2
      rw [← hz] at gw KP
      rw [← hkk] at u1 u2 mn1
      have KM := Lib.hid (KM wr HR.out.pl); have KL := Lib.hid KL; have KE := Lib.hid KE; have KF := Lib.hid KF; have KP := Lib.hid KP
      clear hi hi2 hg hfr hto hch hm hpg hL b0 hy hz hkk
      go_wp2_with fail
      refine KM.out.mono ?_
      rintro e w1 ⟨rfl, m1, c1⟩
      have M1 := Lib.hid m1; have C1 := Lib.hid (HR.out.chg.trans c1); clear m1 c1
      go_wp2_with fail
      refine (KMM.out w1 ms M1.out).mono ?_
      rintro e w' ⟨rfl, rfl⟩
      go_wp2_with fail
      refine (KL.out w1 M1.out).mono ?_
      rintro e w2 ⟨rfl, m2, c2⟩
      have M2 := Lib.hid m2; have C2 := Lib.hid (C1.out.trans c2); clear m2 c2
      go_wp2_with fail
      refine (KMM.out w2 ms M2.out).mono ?_
      rintro e w' ⟨rfl, rfl⟩
      go_wp2_with fail
      refine (KE.out w2 M2.out).mono ?_
      rintro e w3 ⟨rfl, m3, c3⟩
      have M3 := Lib.hid m3; have C3 := Lib.hid (C2.out.trans c3); clear m3 c3
      have K5 := Lib.hid (KMM.out w3.drew ms M3.out.drew)
      have K6 := Lib.hid (KF.out w3.drew)
      have K7 := Lib.hid (KP.out w3.drew M3.out.drew)
      go_wp2_with fail
      go_region_held3 (fun w' => True) (first | assumption | exact True.intro | (simp [*]; done))
        (first
          | (go_at_call 41; refine K5.out.mono ?_; rintro e v1 ⟨rfl, hw⟩; rw [← hw]; clear hw)
          | (go_at_call 58; refine K6.out.mono ?_; rintro e v1 ⟨rfl, hw⟩; rw [← hw]; clear hw)
          | (go_at_call 44; refine K7.out.mono ?_; rintro e v2 ⟨rfl, m4, c4⟩; have N4 := Lib.hid (NX.out v2 m4 (C3.out.drew.trans c4)); clear m4 c4))
      all_goals
        go_wp2_with fail
        clear ni ni2 u1 u2 u3 u4 gw n1 n2
        have hm := HB.out.1
        have wk : wrap64 ((k : Int) + 1) = (k : Int) + 1 := by unfold wrap64; omega
        go_roundw
        case rel => exact ⟨k + 1, _, rfl, hlt, by rw [wk]; rfl, by rw [HS2.out]; exact N4⟩
        case measure => rw [wk]; simp [intOf]; omega
    · have d1 : decide ((k : Int) < (many : Int)) = false := decide_eq_false (by omega)
      obtain rfl : k = many := by omega
      have FIN := Lib.hid (show FlI S w q p F root page k Q R s' wr from HS.out ▸ HR.out)
      go_wp2_with fail
      go_ret
      exact ⟨rfl, FIN.out⟩
end Go.Proofs.YtijooajhjcfneaaGreat

namespace Go.Proofs.YtijooajhjcfneaaGreat
open Go.RowKit

/-- m pages from 1 on, the stack's, their tables, the root -/
def shQ (m : Nat) (l j : Nat) : Bool := match l with
  | 0 => decide (1 ≤ j ∧ j < 1 + m) || decide (56 ≤ j ∧ j < 64)
  | 1 => decide (j < 2)
  | 2 => decide (j = 0)
  | 3 => decide (j = 0)
  | _ => false
theorem cnt_0 (m : Nat) (hm : m ≤ 28) : ∀ n, cnt (shQ m 0) 0 n = (min (1 + m) n - min 1 n) + (min 64 n - min 56 n)
  | 0 => by simp [cnt]
  | n + 1 => by
    rw [cnt, cnt_0 m hm n, Nat.zero_add]
    have e : shQ m 0 n = (decide (1 ≤ n ∧ n < 1 + m) || decide (56 ≤ n ∧ n < 64)) := rfl
    rw [e]
    by_cases c1 : 1 ≤ n ∧ n < 1 + m
    · rw [decide_eq_true c1, Bool.true_or, if_pos rfl]; omega
    · rw [decide_eq_false c1, Bool.false_or]
      by_cases c2 : 56 ≤ n ∧ n < 64
      · rw [decide_eq_true c2, if_pos rfl]; omega
      · rw [decide_eq_false c2, if_neg (by decide)]; omega
theorem cnt_1 (m : Nat) : ∀ n, cnt (shQ m 1) 0 n = min 2 n
  | 0 => by simp [cnt]
  | n + 1 => by
    rw [cnt, cnt_1 m n, Nat.zero_add]
    have e : shQ m 1 n = decide (n < 2) := rfl
    rw [e]
    by_cases c1 : n < 2
    · rw [decide_eq_true c1, if_pos rfl]; omega
    · rw [decide_eq_false c1, if_neg (by decide)]; omega
theorem cnt_2 (m : Nat) : ∀ n, cnt (shQ m 2) 0 n = min 1 n
  | 0 => by simp [cnt]
  | n + 1 => by
    rw [cnt, cnt_2 m n, Nat.zero_add]
    have e : shQ m 2 n = decide (n = 0) := rfl
    rw [e]
    by_cases c1 : n = 0
    · rw [decide_eq_true c1, if_pos rfl]; omega
    · rw [decide_eq_false c1, if_neg (by decide)]; omega
theorem shQ_cnt (m : Nat) (hm : m ≤ 28) : cntN (shQ m) = m + 12 := by
  unfold cntN
  rw [cnt_0 m hm, cnt_1, cnt_2, if_pos (show shQ m 3 0 = true from rfl)]
  omega
theorem shQ_low (m k : Nat) (h1 : 1 ≤ k) (h : k < 1 + m) (hm : m ≤ 28) : ∀ l, l ≤ 2 → shQ m l (k / 32 ^ l) = true := by
  intro l hl
  match l, hl with
  | 0, _ => rw [Nat.pow_zero, Nat.div_one]; show (decide (1 ≤ k ∧ k < 1 + m) || _) = true; rw [decide_eq_true ⟨h1, h⟩]; rfl
  | 1, _ => rw [Nat.pow_one]; exact decide_eq_true (by omega)
  | 2, _ => rw [show 32 ^ 2 = 1024 from rfl]; exact decide_eq_true (by omega)
  | l + 3, h => omega
theorem shQ_high (m k : Nat) (h1 : 56 ≤ k) (h : k < 64) : ∀ l, l ≤ 2 → shQ m l (k / 32 ^ l) = true := by
  intro l hl
  match l, hl with
  | 0, _ => rw [Nat.pow_zero, Nat.div_one]; show (decide (1 ≤ k ∧ k < 1 + m) || decide (56 ≤ k ∧ k < 64)) = true; rw [decide_eq_true (show 56 ≤ k ∧ k < 64 from ⟨h1, h⟩)]; simp
  | 1, _ => rw [Nat.pow_one]; exact decide_eq_true (by omega)
  | 2, _ => rw [show 32 ^ 2 = 1024 from rfl]; exact decide_eq_true (by omega)
  | l + 3, h => omega
/-- a root that was just taken -/
theorem FI.start {F m : Nat} {s : PS} {R : Roles} (g : SG F s R) (hm : m ≤ 28) (hl : m + 12 ≤ s.left F) : FI F (s.top F) (shQ m) (s.take F) (setR R (s.top F) (s.top F, 3, 0)) ∧ ∀ j, hasB F (setR R (s.top F) (s.top F, 3, 0)) (s.top F) 0 j = false := by
  have hc : 0 < s.left F := by omega
  obtain ⟨gr, hn, hno, htop⟩ := new_grow g.wf hc
  obtain ⟨g1, r1, _⟩ := good_new g hc
  have hcnt := gr.cnt
  have hz : hasB F R (s.top F) = fun _ _ => false := by funext l i; exact hno l i
  rw [hz, cntN_none] at hcnt
  have hset : ∀ l j, hasB F (setR R (s.top F) (s.top F, 3, 0)) (s.top F) l j = setP (hasB F R (s.top F)) 3 0 l j := fun l j => by
    exact congrFun (congrFun htop l) j
  refine ⟨⟨g1, r1, fun l j hj => ?_, by rw [shQ_cnt m hm, hcnt]; omega⟩, fun j => ?_⟩
  · rw [hset, hz] at hj
    unfold setP at hj
    by_cases c : l = 3 ∧ j = 0
    · obtain ⟨rfl, rfl⟩ := c
      rfl
    · rw [if_neg c] at hj
      cases hj
  · rw [hset, hz]
    unfold setP
    rw [if_neg (by omega)]
end Go.Proofs.YtijooajhjcfneaaGreat
