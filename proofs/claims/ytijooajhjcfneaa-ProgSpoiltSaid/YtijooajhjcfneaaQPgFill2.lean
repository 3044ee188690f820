/-
  fill, by its contract.
-/
import Derived.Test.YtijooajhjcfneaaQPgFill
namespace Go.Proofs.Ytijooajhjcfneaa
open Go.RowKit

/-- a page that is mapped, and bytes put into it -/
def flS (F root : Nat) (s : PS) (i bits : Nat) (c : ByteArray) : PS := ⟨(mapS F s root i bits).1.Fr, putV (mapS F s root i bits).1.V (leafF (mapS F s root i bits).1.V root i * 256) c.size (byt c)⟩
/-- the k-th page's bytes -/
def chB (str : ByteArray) (k : Nat) : ByteArray := str.extract (min (k * 256) str.size) (min (min (k * 256) str.size + 256) str.size)
theorem chB_size (str : ByteArray) (k : Nat) : (chB str k).size ≤ 256 := by unfold chB; rw [ByteArray.size_extract]; omega
def flN (F root page bits : Nat) (str : ByteArray) (s : PS) : Nat → PS
  | 0 => s
  | k + 1 => flS F root (flN F root page bits str s k) (page + k) bits (chB str k)
theorem flS_at {F root i bits t g : Nat} {s ms : PS} {R R' : Roles} (h : PgAt F root i bits s ms R R' t g) (c : ByteArray) : flS F root s i bits c = ⟨ms.Fr, putV ms.V (g * 256) c.size (byt c)⟩ := by
  unfold flS
  rw [h.map]
  show (⟨ms.Fr, putV ms.V (leafF ms.V root i * 256) c.size (byt c)⟩ : PS) = _
  rw [h.lf]
/-- what fill's calls answer, for a page -/
structure F2 (S : Nat → Prop) (q p F root i bits x g ef : Nat) (c : ByteArray) (s ms s2 : PS) : Prop where
  ilt : i < 32768
  glt : g < 256
  km : ∀ W, Pl S W q p F 0 s.Fr s.V → Calls Try.prog 48 #[.pointer (some ⟨q, 0, none⟩), .int .i64 root, .int .i64 i, .int .u64 bits] W (StepF S W q p F 0 ms.Fr ms.V (.int .i64 0))
  kl : ∀ W, Pl S W q p F 0 ms.Fr ms.V → Calls Try.prog 49 #[.pointer (some ⟨p, 0, none⟩), .int .i64 root, .int .u64 ((i * 256 : Nat) : Int)] W (StepF S W q p F 0 ms.Fr ms.V (.tuple #[.int .u64 (x : Nat), .int .i64 0]))
  ke : ∀ W, Pl S W q p F 0 ms.Fr ms.V → Calls Try.prog 51 #[.pointer (some ⟨p, 0, none⟩), .int .u64 (x : Nat), .int .i64 8] W (StepF S W q p F 0 ms.Fr ms.V (.tuple #[.int .u64 (ef : Nat), .int .i64 0]))
  kf : ∀ W, Calls Try.prog 40 #[.int .u64 (ef : Nat)] W fun r w' => r = .returned (.int .u64 (g : Nat)) ∧ W = w'
  kp : ∀ W, Pl S W q p F 0 ms.Fr ms.V → Calls Try.prog 52 #[.pointer (some ⟨p, 0, none⟩), .int .u64 ((g * 256 : Nat) : Int), .string c] W (StepF S W q p F 0 s2.Fr s2.V (.int .i64 0))
theorem F2.of {S : Nat → Prop} {q p F root i bits t g : Nat} {s ms : PS} {R R' : Roles} (hF : F ≤ 256) (hi : i < 32768) (hb : bits < 32) (hb1 : bits % 2 = 1) (hW : WFS F s R) (hr : R root = some (root, 3, 0)) (h : PgAt F root i bits s ms R R' t g) (c : ByteArray) (hc : c.size ≤ 256) :
    F2 S q p F root i bits (t * 256 + 8 * pt i 0) g (ent ms.V t (pt i 0)) c s ms ⟨ms.Fr, putV ms.V (g * 256) c.size (byt c)⟩ := by
  have hg := h.glt
  have hbd : ent ms.V t (pt i 0) / 1024 = g := by rw [h.ent]; omega
  refine ⟨hi, Nat.lt_of_lt_of_le hg hF, fun W H => ?_, fun W H => lfR_some (hW.lt _ _ hr) hi h.leaf ▸ f_lf H hF (root : Int) (i * 256), fun W H => f_load8 H hF (t * 256 + 8 * pt i 0) (by have := h.tlt; have := pt_lt i 0; omega) _ rfl, fun W => ?_, fun W H => ?_⟩
  · have k := sp_map H hF hW root i bits hr hi hb hb1
    rw [h.map] at k
    exact k
  · have k := tb_frame W _ (ent_lt ms.V t (pt i 0))
    rw [hbd] at k
    exact k
  · have k := f_put H hF (g * 256) (by omega) c (by unfold maxLen; omega)
    have e : cdP F (g * 256) c = 0 := by unfold cdP; rw [if_pos (by omega)]
    have e2 : ptV F ms.V (g * 256) c = putV ms.V (g * 256) c.size (byt c) := by unfold ptV; rw [if_pos e]
    rw [e, e2] at k
    exact k
theorem put_name : True := trivial
/-- between the pages -/
structure FlI (S : Nat → Prop) (w0 : World) (q p F root page k : Nat) (Q : Nat → Nat → Bool) (R0 : Roles) (s : PS) (W : World) : Prop where
  st : ∃ R, FI F root Q s R ∧ (∀ j, hasB F R root 0 j = (hasB F R0 root 0 j || decide (page ≤ j ∧ j < page + k)))
  pl : Pl S W q p F 0 s.Fr s.V
  chg : Chg (fun k => ¬ S k) w0 W
theorem fill_nums (k L : Nat) (hk : k ≤ 100) (hL : L ≤ 4096) : wrap64 ((k : Int) * 256) = ((k * 256 : Nat) : Int) ∧ IntKind.i64.wrap ((k : Int) * 256) = ((k * 256 : Nat) : Int) := ⟨by unfold wrap64; omega, i64_wrap_eq (by omega) (by omega)⟩
theorem fn1 (page k : Nat) (h : page + k ≤ 1000) : wrap64 ((page : Int) + (k : Int)) = ((page + k : Nat) : Int) := by unfold wrap64; omega
theorem fn2 (page k : Nat) (h : page + k ≤ 1000) : IntKind.i64.wrap ((page : Int) + (k : Int)) = ((page + k : Nat) : Int) := i64_wrap_eq (by omega) (by omega)
theorem fn3 (fr : Nat) (h : fr ≤ 4096) : wrap64 ((fr : Int) + 256) = (fr : Int) + 256 := by unfold wrap64; omega
theorem fn4 (fr : Nat) (h : fr ≤ 4096) : IntKind.i64.wrap ((fr : Int) + 256) = (fr : Int) + 256 := i64_wrap_eq rfl (by omega)
theorem fn5 (g : Nat) (h : g < 256) : IntKind.u64.wrap ((g : Int) * 256) = ((g * 256 : Nat) : Int) := by rw [u64_wrap]; omega
theorem fn6 (k L fr te : Nat) (hfr : fr = min (k * 256) L) (hto : te = min (fr + 256) L) (hL : L ≤ 4096) : fr ≤ 4096 ∧ (te : Int) ≤ (L : Int) ∧ (fr : Int) ≤ (te : Int) := by omega
set_option maxRecDepth 100000 in
set_option maxHeartbeats 1600000 in
theorem p_fill_round {S : Nat → Prop} {w : World} {q p F root page many bits : Nat} {str : ByteArray} {s s' : PS} {R : Roles} {Q : Nat → Nat → Bool} (h : Pl S w q p F 0 s.Fr s.V) (hF : F ≤ 256) (f : FI F root Q s R) (hm : many ≤ 100) (hpg : page + many ≤ 1000) (hb : bits < 32) (hb1 : bits % 2 = 1) (hL : str.size ≤ 4096)
    (hnew : ∀ k, k < many → hasB F R root 0 (page + k) = false) (hq : ∀ k, k < many → ∀ l, l ≤ 2 → Q l ((page + k) / 32 ^ l) = true) (hs : flN F root page bits str s many = s') :
    Calls Try.prog 34 #[.pointer (some ⟨q, 0, none⟩), .int .i64 root, .int .i64 page, .int .i64 many, .int .u64 bits, .string str] w fun e w' => e = .returned (.int .i64 0) ∧ FlI S w q p F root page many Q R s' w' := by
  have M0 := Lib.hid (show FlI S w q p F root page 0 Q R (flN F root page bits str s 0) w from ⟨⟨R, f, fun j => by rw [decide_eq_false (by omega)]; simp⟩, h, Chg.refl _ _⟩)
  have ROUND := Lib.hid (fun (k : Nat) (hk : k < many) (W : World) (H : FlI S w q p F root page k Q R (flN F root page bits str s k) W) => show ∃ x g ef ms, F2 S q p F root (page + k) bits x g ef (chB str k) (flN F root page bits str s k) ms (flN F root page bits str s (k + 1)) ∧ ∀ W', Pl S W' q p F 0 (flN F root page bits str s (k + 1)).Fr (flN F root page bits str s (k + 1)).V → Chg (fun k => ¬ S k) w W' → FlI S w q p F root page (k + 1) Q R (flN F root page bits str s (k + 1)) W' from by
    obtain ⟨⟨Rk, fk, hk2⟩, _, _⟩ := H
    have hn : hasB F Rk root 0 (page + k) = false := by rw [hk2, hnew k hk, decide_eq_false (by omega)]; rfl
    obtain ⟨ms, R', t, g, pa, nx⟩ := fk.step hF (by omega) hb hb1 hn (hq k hk)
    have e : flN F root page bits str s (k + 1) = ⟨ms.Fr, putV ms.V (g * 256) (chB str k).size (byt (chB str k))⟩ := flS_at pa _
    rw [e]
    refine ⟨_, g, _, ms, F2.of hF (by omega) hb hb1 fk.g.wf fk.r pa (chB str k) (chB_size _ _), fun W' hp hc => ⟨⟨R', nx _ _ (chB_size _ _), fun j => ?_⟩, hp, hc⟩⟩
    obtain ⟨l, _, hl⟩ := pa.has
    rw [hl, hk2, Nat.pow_zero, Nat.div_one, decide_eq_true (Nat.zero_le l), Bool.true_and, Bool.or_assoc]
    congr 1
    rw [← Bool.decide_or]
    apply Bool.eq_iff_iff.2
    rw [decide_eq_true_eq, decide_eq_true_eq]
    omega)
  have HS := Lib.hid hs
  have KMM := Lib.hid (fun (W : World) (s : PS) (H : Pl S W q p F 0 s.Fr s.V) => f_mem H)
  have HB := Lib.hid (And.intro hm (And.intro hpg hL))
  clear h f hb hb1 hnew hq hs hF hm hpg hL
  go_enter Try.func34, Try.ntmps34
  go_wp2_with fail
  go_loopw [21] (fun i wr => ∃ (k : Nat) (W' : World), W' = wr ∧ k ≤ many ∧ i = .int .i64 k ∧ Hid (FlI S w q p F root page k Q R (flN F root page bits str s k) W')) (fun i _ => many - (intOf i).toNat)
  case atStart => exact ⟨0, _, rfl, Nat.zero_le _, rfl, M0⟩
  case round =>
    obtain ⟨k, wr, rfl, hk, rfl, HR⟩ := hrel
    obtain ⟨hm, hpg, hL⟩ := HB.out
    by_cases hlt : k < many
    · have d1 : decide ((k : Int) < (many : Int)) = true := decide_eq_true (by omega)
      obtain ⟨x, g, ef, ms, F2h, NX⟩ := ROUND.out k hlt wr HR.out
      obtain ⟨i, hi⟩ : ∃ i, i = page + k := ⟨_, rfl⟩
      rw [← hi] at F2h
      obtain ⟨hi2, hg, KM, KL, KE, KF, KP⟩ := F2h
      have NX := Lib.hid NX
      generalize hs2 : flN F root page bits str s (k + 1) = s2 at *
      generalize flN F root page bits str s k = s1 at *
      have HS2 := Lib.hid hs2
      clear hs2
      obtain ⟨n1, n2, n3⟩ := page_wraps i hi2
      have ni := fn1 page k (by omega)
      have ni2 := fn2 page k (by omega)
      rw [← hi] at ni ni2
      obtain ⟨fr, hfr⟩ : ∃ fr, fr = min (k * 256) str.size := ⟨_, rfl⟩
      obtain ⟨te, hto⟩ : ∃ te, te = min (fr + 256) str.size := ⟨_, rfl⟩
      obtain ⟨u1, u2⟩ := fill_nums k str.size (by clear ni ni2 hfr hto; omega) hL
      have mn1 := fun W => run_min2 W (k * 256) str.size fr hfr
      have mn2 := fun W => run_min2 W (fr + 256) str.size te hto
      rw [show ((fr + 256 : Nat) : Int) = (fr : Int) + 256 from rfl] at mn2
      obtain ⟨b0, b1, b2⟩ := fn6 k str.size fr te hfr hto hL
      have u3 := fn3 fr b0
      have u4 := fn4 fr b0
      have b3 : (0 : Int) ≤ (fr : Int) := Int.natCast_nonneg fr
      have hch : chB str k = str.extract fr te := by unfold chB; rw [← hfr, ← hto]
      rw [hch] at KP
      have gw := fn5 g hg
      obtain ⟨y, hy⟩ : ∃ y, y = i * 256 := ⟨_, rfl⟩
      obtain ⟨z, hz⟩ : ∃ z, z = g * 256 := ⟨_, rfl⟩
      obtain ⟨kk, hkk⟩ : ∃ kk, kk = k * 256 := ⟨_, rfl⟩
      rw [← hy] at n3 KL
      rw [n3] at n2
      rw [← hz] at gw KP
      rw [← hkk] at u1 u2 mn1
      have KM := Lib.hid (KM wr HR.out.pl); have KL := Lib.hid KL; have KE := Lib.hid KE; have KF := Lib.hid KF; have KP := Lib.hid KP
      clear hi hi2 hg hfr hto hch hm hpg hL b0 hy hz hkk
      go_wp2_with fail
      refine KM.out.mono ?_
      rintro e w1 ⟨rfl, m1, c1⟩
      have M1 := Lib.hid m1; have C1 := Lib.hid (HR.out.chg.trans c1); clear m1 c1
      go_wp2_with fail
      refine (KMM.out w1 ms M1.out).mono ?_
      rintro e w' ⟨rfl, rfl⟩
      go_wp2_with fail
      refine (KL.out w1 M1.out).mono ?_
      rintro e w2 ⟨rfl, m2, c2⟩
      have M2 := Lib.hid m2; have C2 := Lib.hid (C1.out.trans c2); clear m2 c2
      go_wp2_with fail
      refine (KMM.out w2 ms M2.out).mono ?_
      rintro e w' ⟨rfl, rfl⟩
      go_wp2_with fail
      refine (KE.out w2 M2.out).mono ?_
      rintro e w3 ⟨rfl, m3, c3⟩
      have M3 := Lib.hid m3; have C3 := Lib.hid (C2.out.trans c3); clear m3 c3
      have K5 := Lib.hid (KMM.out w3.drew ms M3.out.drew)
      have K6 := Lib.hid (KF.out w3.drew)
      have K7 := Lib.hid (KP.out w3.drew M3.out.drew)
      go_wp2_with fail
      go_region_held3 (fun w' => True) (first | assumption | exact True.intro | (simp [*]; done))
        (first
          | (go_at_call 50; refine K5.out.mono ?_; rintro e v1 ⟨rfl, hw⟩; rw [← hw]; clear hw)
          | (go_at_call 40; refine K6.out.mono ?_; rintro e v1 ⟨rfl, hw⟩; rw [← hw]; clear hw)
          | (go_at_call 52; refine K7.out.mono ?_; rintro e v2 ⟨rfl, m4, c4⟩; have N4 := Lib.hid (NX.out v2 m4 (C3.out.drew.trans c4)); clear m4 c4))
      all_goals
        go_wp2_with fail
        clear ni ni2 u1 u2 u3 u4 gw n1 n2
        have hm := HB.out.1
        have wk : wrap64 ((k : Int) + 1) = (k : Int) + 1 := by unfold wrap64; omega
        go_roundw
        case rel => exact ⟨k + 1, _, rfl, hlt, by rw [wk]; rfl, by rw [HS2.out]; exact N4⟩
        case measure => rw [wk]; simp [intOf]; omega
    · have d1 : decide ((k : Int) < (many : Int)) = false := decide_eq_false (by omega)
      obtain rfl : k = many := by omega
      have FIN := Lib.hid (show FlI S w q p F root page k Q R s' wr from HS.out ▸ HR.out)
      go_wp2_with fail
      go_ret
      exact ⟨rfl, FIN.out⟩
end Go.Proofs.Ytijooajhjcfneaa
