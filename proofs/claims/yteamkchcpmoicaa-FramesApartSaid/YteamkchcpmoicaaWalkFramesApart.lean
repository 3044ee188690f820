/-
  The walk of the statement FramesApart: true, for every input.
-/
import Derived.Test.YteamkchcpmoicaaFrLeast
import Derived.Test.YteamkchcpmoicaaRefMem1
import Derived.Test.YteamkchcpmoicaaOpenS
namespace Go.Proofs.Yteamkchcpmoicaa
open Go.RowKit

theorem Pl.box {S : Nat → Prop} {w w' : World} {q p F first : Nat} {Fr : Nat → Bool} {V : Nat → Nat} (h : Pl S w q p F first Fr V) (c : Chg (fun _ => False) w w') (hn : w.heap.size < w'.heap.size) : Pl (fun k => S k ∨ k = w.heap.size) w' q p F first Fr V := by
  obtain ⟨b, o, t, ht, hp, hB, hS⟩ := h
  have l0 := hp.lt
  refine ⟨b, o, t, ht, hp.chg c (fun _ _ h => h), fun k a b => ?_, fun k a => ?_⟩
  · rcases b with b | b
    · exact hB k a b
    · have := l0 k a; omega
  · rcases a with a | a
    · have := hS k a; omega
    · omega
/-- what changes among the blocks of S only -/
theorem Pl.nothing' {S S' : Nat → Prop} {w w' : World} {q p F first : Nat} {Fr : Nat → Bool} {V : Nat → Nat} (h : Pl S w q p F first Fr V) (c : Chg S' w w') (hs : ∀ k, S' k → S k) : Pl S w' q p F first Fr V := by
  obtain ⟨b, o, t, ht, hp, hB, hS⟩ := h
  exact ⟨b, o, t, ht, hp.chg c (fun k a b => hB k a (hs k b)), hB, fun k h => Nat.lt_of_lt_of_le (hS k h) c.size⟩
abbrev BoT : TypeId := 4
theorem Try.infoBo : (Try.prog.info? 4).map (fun i => (i.zero, i.size, i.bytes)) = some (some (.bool false), 1, 1) := by kernel_rfl
def falses (n : Nat) : Array Value := madeCells #[.bool false] n
theorem falses_get (n i : Nat) (h : i < n) : (falses n)[i]? = some (.bool false) := by
  unfold falses madeCells
  simp [h, Nat.mod_one]
theorem make_bools (W : World) (n : Nat) (hn : n ≤ 16777216) : (Instr.makeSlice 56 (.int .i64 (n : Int)) (.int .i64 (n : Int))).run Try.prog W = .ok (.slice (some ⟨W.heap.size, 0, none⟩) n n) (W.alloc (.cells (falses n) BoT)) := by
  obtain ⟨i0, hi, hz0, hz1, hz2⟩ := info_parts Try.infoBo
  have h := run_make (P := Try.prog) W 56 BoT i0 (.bool false) Try.underlying56 hi hz0 .i64 .i64 (n : Int) (n : Int) (by omega) (Int.le_refl _) (by rw [hz2]; omega) (by omega)
  rw [hz1, Nat.mul_one] at h
  exact h

/-- the row of bools: which frames were taken -/
def Had (w : World) (hd n : Nat) (f : Nat → Bool) : Prop := ∃ cs : Array Value, Blk w hd cs BoT ∧ cs.size = n ∧ ∀ i, i < n → cs[i]? = some (.bool (f i))
theorem Had.set {w : World} {hd n i : Nat} {f : Nat → Bool} (h : Had w hd n f) (hi : i < n) (v : Bool) : Had (w.setCell ⟨hd, i, none⟩ (.bool v)) hd n (setF f i v) := by
  obtain ⟨cs, hb, hs, hv⟩ := h
  refine ⟨_, hb.set i _, by simpa using hs, fun j hj => ?_⟩
  unfold setF
  by_cases e : j = i
  · subst e; rw [if_pos rfl]; simp [hs, hj]
  · rw [if_neg e, Array.getElem?_setIfInBounds_ne (by omega)]; exact hv j hj
theorem Had.chg {S : Nat → Prop} {w w' : World} {hd n : Nat} {f : Nat → Bool} (h : Had w hd n f) (c : Chg S w w') (hn : ¬ S hd) : Had w' hd n f := by
  obtain ⟨cs, hb, r⟩ := h
  exact ⟨cs, c.blk hb hn, r⟩
theorem Had.congr {w : World} {hd n : Nat} {f f' : Nat → Bool} (h : Had w hd n f) (e : ∀ i, i < n → f i = f' i) : Had w hd n f' := by
  obtain ⟨cs, hb, hs, hv⟩ := h
  exact ⟨cs, hb, hs, fun i hi => by rw [← e i hi]; exact hv i hi⟩
theorem Had.cell {w : World} {hd n : Nat} {f : Nat → Bool} (h : Had w hd n f) (i : Nat) (hi : i < n) : w.cell? ⟨hd, i, none⟩ = some (.bool (f i)) := by
  obtain ⟨cs, hb, _, hv⟩ := h
  exact hb.cellv i _ (hv i hi)
theorem Had.free {w : World} {hd n : Nat} {f : Nat → Bool} (h : Had w hd n f) (i : Nat) : w.frozen? ⟨hd, i, none⟩ = false := by
  obtain ⟨cs, hb, _⟩ := h
  exact hb.free i

/-- between the acts -/
def ApartAt (w : World) (q p hd : Nat) (wr : World) : Prop := ∃ Fr V, Pl (fun k => k < w.heap.size ∨ k = hd) wr q p 6 0 Fr V ∧ Had wr hd 6 (fun i => !Fr i) ∧ Below w.heap.size w wr
theorem below_of_chg {w W W' : World} {hd : Nat} (h : Below w.heap.size w W) (c : Chg (fun k => ¬ (k < w.heap.size ∨ k = hd)) W W') : Below w.heap.size w W' := h.trans (c.below h.size (fun _ h => by omega))
theorem clear_zero (V : Nat → Nat) (L : Nat) (h : L < 6) : memStr (clV 6 V (L : Int)) (256 * L) 256 = memStr (fun _ => 0) 0 256 := memStr_congr fun i hi => by
  unfold clV cdF
  rw [if_pos (by omega)]
  unfold putV
  rw [if_pos (by omega)]

set_option maxRecDepth 100000 in
set_option maxHeartbeats 1600000 in
theorem framesApart_walk (w : World) (a0 : Option Addr) (len0 cap0 : Nat) (V0 : Nat → Nat → Value) (s0 : SRow w a0 len0 3 V0)
    (t0 : ∀ i, i < len0 → ∃ x : Int, V0 i 0 = .int .i64 x ∧ (Lit.int .i64 x).wf = true) (t1 : ∀ i, i < len0 → ∃ x : Int, V0 i 1 = .int .i64 x ∧ (Lit.int .i64 x).wf = true)
    (t2 : ∀ i, i < len0 → ∃ x : Int, V0 i 2 = .int .u64 x ∧ (Lit.int .u64 x).wf = true)
    (y0 : len0 * Try.prog.bytesOf 34 ≤ 140737488351232) :
    Calls Try.prog 8 #[.slice a0 len0 cap0] w fun e w' => e = .returned (.bool true) ∧ Below w.heap.size w w' := by
  have hlen : len0 < 9223372036854775807 := by
    have e : Try.prog.bytesOf 34 = 24 := by kernel_rfl
    rw [e] at y0; omega
  have K0 := fun W (H : w.heap.size ≤ W.heap.size) => Lib.hid (s_new w.heap.size W H 6 (by omega) (by omega))
  rw [show (6 : Int).toNat = 6 from rfl] at K0
  have K1 := fun W p (H : MT w.heap.size W p 6 (fun _ => 0)) => Lib.hid (f_new H (by omega) 0 (by omega))
  rw [show ((0 : Nat) : Int) = 0 from rfl] at K1
  have hmb := fun W => make_bools W 6 (by omega)
  rw [show ((6 : Nat) : Int) = 6 from rfl] at hmb
  have C0 := Lib.hid K0; have C1 := Lib.hid K1
  have S0 := Lib.hid s0; have T0 := Lib.hid t0; have T1 := Lib.hid t1; have T2 := Lib.hid t2
  clear K0 K1 s0 t0 t1 t2 y0
  go_enter Try.func8, Try.ntmps8
  go_wp2_with fail
  refine (fshown w).mono ?_
  rintro e w1 ⟨rfl, b1⟩
  have B1 := Lib.hid b1; clear b1
  go_wp2_with fail
  refine (C0.out w1 B1.out.size).out.mono ?_
  rintro e w2 ⟨rfl, m2, b2⟩
  have M2 := Lib.hid (StepS.toT (by omega) m2); have B2 := Lib.hid (B1.out.trans b2); clear m2 b2
  generalize w1.heap.size = p at *
  go_wp2_with fail
  refine (C1.out w2 p M2.out).out.mono ?_
  rintro e w3 ⟨q, rfl, m3, b3⟩
  have hb3 := B2.out.trans b3
  have M3 := Lib.hid (show ApartAt w q p w3.heap.size (w3.alloc (.cells (falses 6) BoT)) from ⟨_, _, m3.box ((Chg.refl _ _).alloc _) (by simp), ⟨_, Blk.new _ _ _, size_madeCells _ _, fun i hi => by rw [falses_get 6 i hi]; show _ = some (Value.bool (!decide (0 ≤ i ∧ i < 6))); rw [decide_eq_true (by omega)]; rfl⟩, hb3.alloc hb3.size _⟩)
  have HD := Lib.hid (show w.heap.size ≤ w3.heap.size from hb3.size)
  clear m3 b3 hb3
  go_wp2_with fail
  clear hmb
  generalize w3.alloc _ = w4 at *
  generalize w3.heap.size = hd at *
  have hm256 := fun W => make_bytes W 256 (by omega)
  rw [show ((256 : Nat) : Int) = 256 from rfl] at hm256
  have hc256 := fun W => row_string _ _ 256 _ (row_zeros W 256) 0 0 256 256 (fun _ => rfl) (by omega)
  generalize hsz : memStr (fun _ => 0) 0 256 = sz at *
  have HSZ := Lib.hid hsz; clear hsz
  go_loopw [9] (fun i wr => ∃ k : Nat, k ≤ len0 ∧ i = .int .i64 k ∧ Hid (ApartAt w q p hd wr)) (fun i _ => len0 - (intOf i).toNat)
  case atStart => exact ⟨0, Nat.zero_le _, rfl, M3⟩
  case round =>
    obtain ⟨k, hk, rfl, HR⟩ := hrel
    obtain ⟨Fr, V, hM, hH, hBw⟩ := HR.out
    by_cases hlt : k < len0
    · obtain ⟨ab, off, rfl, hab, hcell⟩ : ∃ ab off, a0 = some ⟨ab, off, none⟩ ∧ ab < w.heap.size ∧ ∀ i, i < len0 → ∀ j, j < 3 → w.cell? ⟨ab, off + (i * 3 + j), none⟩ = some (V0 i j) := by
        rcases S0.out with h | h
        · omega
        · exact h
      obtain ⟨kd, hkd, _⟩ := T0.out k hlt
      obtain ⟨nn, hnn, _⟩ := T1.out k hlt
      obtain ⟨tk, htk, htw⟩ := T2.out k hlt
      obtain ⟨t, rfl, ht⟩ := u64_nat' htw
      have gb : ∀ W, Below w.heap.size w W → W.cell? ⟨ab, off + k * 3, none⟩ = some (.int .i64 kd) ∧ W.cell? ⟨ab, off + k * 3 + 1, none⟩ = some (.int .i64 nn) ∧ W.cell? ⟨ab, off + k * 3 + 2, none⟩ = some (.int .u64 t) := fun W h =>
        ⟨by rw [h.cell hab, ← hkd]; exact hcell k hlt 0 (by omega), by rw [h.cell hab, ← hnn]; exact hcell k hlt 1 (by omega), by rw [h.cell hab, ← htk]; exact hcell k hlt 2 (by omega)⟩
      have GB := Lib.hid gb
      have k0 : (0 : Int) ≤ (k : Int) := by omega
      have k1 : (k : Int) < (len0 : Int) := by omega
      have HM := Lib.hid hM; have HH := Lib.hid hH; have HB := Lib.hid hBw
      obtain ⟨x0, x1, x2⟩ := gb _ hBw
      have HT := Lib.hid ht
      clear hcell hkd hnn htk htw gb hM hH hBw HR ht
      by_cases e1 : kd = 1
      · subst e1
        obtain ⟨L, l1, l2, l3, l4⟩ := least_free Fr 0 6
        by_cases hL : L < 6
        · have TK := Lib.hid (f_take_some HM.out (by omega) L l1 hL (l4 (by omega)) l3)
          have hf : Fr L = true := l4 (by omega)
          have e0 : cdG 6 (256 * L) 256 = 0 := by unfold cdG; rw [if_neg (by omega), if_pos (by show 256 * L + 256 ≤ 6 * 256; omega)]
          have e2 : gtS 6 (clV 6 V (L : Int)) (256 * L) 256 = sz := by
            unfold gtS; rw [if_pos e0]; exact (clear_zero V L hL).trans HSZ.out
          have GT := fun W V' (H : Pl (fun k => k < w.heap.size ∨ k = hd) W q p 6 0 (setF Fr L false) V') => f_get H (by omega) (256 * L) (by omega) 256 (by omega) ((256 : Int) * (L : Int)) (by omega)
          have GT := fun W (H : Pl (fun k => k < w.heap.size ∨ k = hd) W q p 6 0 (setF Fr L false) (clV 6 V (L : Int))) => Lib.hid (GT W _ H)
          rw [e0, e2] at GT
          generalize clV 6 V (L : Int) = V2 at *
          have GT := Lib.hid GT
          have q1 : wrap64 (256 * (L : Int)) = 256 * (L : Int) := by unfold wrap64; omega
          have q2 : IntKind.u64.wrap (256 * (L : Int)) = 256 * (L : Int) := by rw [u64_wrap]; omega
          have d1 : decide ((L : Int) < (0 : Int)) = false := decide_eq_false (by omega)
          have d2 : decide ((5 : Int) < (L : Int)) = false := decide_eq_false (by omega)
          have d3 : ¬ 5 < L := by omega
          have d4 : (L : Int) < 6 := by omega
          have HFL := Lib.hid hf
          clear l1 l2 l3 l4 e0 e2 hf
          go_wp2_with fail
          refine TK.out.mono ?_
          rintro e w5 ⟨rfl, m5, b5⟩
          have hh5 := HH.out.chg b5 (fun h => h (.inr rfl))
          have g0 := hh5.cell L hL
          rw [show (!Fr L) = false by rw [HFL.out]; rfl] at g0
          have M5 := Lib.hid m5; have B5 := Lib.hid (below_of_chg HB.out b5); have H5 := Lib.hid hh5; clear m5 b5 hh5
          go_wp2_with fail
          refine ((GT.out w5 M5.out).out).mono ?_
          rintro e w6 ⟨rfl, m6, b6⟩
          have hh6 := (H5.out.chg b6 (fun h => h (.inr rfl))).chg ((Chg.refl (fun _ => False) _).alloc (.cells (zeros 256) ByT)) (fun h => h)
          have g0' := hh6.cell L hL
          have f0' := hh6.free L
          have M6 := Lib.hid m6; have B6 := Lib.hid (below_of_chg B5.out b6); have H6 := Lib.hid hh6; clear m6 b6 hh6 g0
          go_wp2_with fail
          go_roundw
          case rel =>
            refine ⟨k + 1, by omega, by go_num, Lib.hid ⟨_, _, M6.out.nothing' (S' := fun k => k = hd) ?_ ?_, (H6.out.set hL true).congr (fun i hi => ?_), ((B6.out.alloc B6.out.size _).setCell HD.out _)⟩⟩
            · exact ((Chg.refl (fun k => k = hd) _).alloc _).setCell _ _ (.inl rfl)
            · exact fun k => .inr
            · unfold setF; by_cases e : i = L
              · subst e; simp
              · simp [e]
          case measure => simp [intOf]; omega
        · obtain rfl : L = 6 := by omega
          have TK := Lib.hid (f_take_none HM.out (by omega) l3)
          clear l1 l2 l3 l4
          go_wp2_with fail
          refine TK.out.mono ?_
          rintro e w5 ⟨rfl, m5, b5⟩
          have M5 := Lib.hid (show ApartAt w q p hd w5 from ⟨_, _, m5, HH.out.chg b5 (fun h => h (.inr rfl)), below_of_chg HB.out b5⟩); clear m5 b5
          go_wp2_with fail
          go_roundw
          case rel => exact ⟨k + 1, by omega, by go_num, M5⟩
          case measure => simp [intOf]; omega
      by_cases e2 : kd = 2
      · subst e2
        by_cases hin : 0 ≤ nn ∧ nn < 6
        · obtain ⟨g, rfl⟩ := Int.eq_ofNat_of_zero_le hin.1
          have hg6 : g < 6 := by omega
          have d1 : decide ((0 : Int) ≤ (g : Int)) = true := decide_eq_true (by omega)
          have d2 : decide ((g : Int) < (6 : Int)) = true := decide_eq_true (by omega)
          have d3 : (g : Int) < 6 := by omega
          by_cases hf : Fr g = true
          · have GV := Lib.hid (f_give_no HM.out (by omega) (g : Int) (fun h => by have := h.2.2; rw [Int.toNat_natCast, hf] at this; cases this))
            clear hin
            go_wp2_with fail
            refine GV.out.mono ?_
            rintro e w5 ⟨rfl, m5, b5⟩
            have hh5 := HH.out.chg b5 (fun h => h (.inr rfl))
            have g0 := hh5.cell g hg6
            rw [show (!Fr g) = false by rw [hf]; rfl] at g0
            have b5' := below_of_chg HB.out b5
            obtain ⟨x0, x1, x2⟩ := GB.out _ b5'
            have M5 := Lib.hid (show ApartAt w q p hd w5 from ⟨_, _, m5, hh5, b5'⟩); clear m5 b5 hh5 b5'
            go_wp2_with fail
            go_roundw
            case rel => exact ⟨k + 1, by omega, by go_num, M5⟩
            case measure => simp [intOf]; omega
          · have hf0 : Fr g = false := by simpa using hf
            have GV := Lib.hid (f_give_yes HM.out (by omega) g (by omega) hg6 hf0)
            clear hin
            generalize clV 6 V (g : Int) = V2 at *
            go_wp2_with fail
            refine GV.out.mono ?_
            rintro e w5 ⟨rfl, m5, b5⟩
            have hh5 := HH.out.chg b5 (fun h => h (.inr rfl))
            have g0 := hh5.cell g hg6
            have f0 := hh5.free g
            rw [show (!Fr g) = true by rw [hf0]; rfl] at g0
            have b5' := below_of_chg HB.out b5
            obtain ⟨x0, x1, x2⟩ := GB.out _ b5'
            have M5 := Lib.hid m5; have H5 := Lib.hid hh5; have B5 := Lib.hid b5'; clear m5 b5 hh5 b5'
            go_wp2_with fail
            go_roundw
            case rel =>
              refine ⟨k + 1, by omega, by go_num, Lib.hid ⟨_, _, M5.out.nothing' (S' := fun k => k = hd) ?_ ?_, (H5.out.set hg6 false).congr (fun i hi => ?_), (B5.out.setCell HD.out _)⟩⟩
              · exact (Chg.refl (fun k => k = hd) _).setCell _ _ (.inl rfl)
              · exact fun k => .inr
              · unfold setF; by_cases e : i = g
                · subst e; simp
                · simp [e]
            case measure => simp [intOf]; omega
        · have GV := Lib.hid (f_give_no HM.out (by omega) nn (fun h => hin ⟨h.1, h.2.1⟩))
          by_cases h0 : 0 ≤ nn
          · have d1 : decide ((0 : Int) ≤ nn) = true := decide_eq_true h0
            have d2 : decide (nn < (6 : Int)) = false := decide_eq_false (by omega)
            clear hin
            go_wp2_with fail
            refine GV.out.mono ?_
            rintro e w5 ⟨rfl, m5, b5⟩
            have b5' := below_of_chg HB.out b5
            obtain ⟨x0, x1, x2⟩ := GB.out _ b5'
            have M5 := Lib.hid (show ApartAt w q p hd w5 from ⟨_, _, m5, HH.out.chg b5 (fun h => h (.inr rfl)), b5'⟩); clear m5 b5 b5'
            go_wp2_with fail
            go_roundw
            case rel => exact ⟨k + 1, by omega, by go_num, M5⟩
            case measure => simp [intOf]; omega
          · have d1 : decide ((0 : Int) ≤ nn) = false := decide_eq_false h0
            clear hin
            go_wp2_with fail
            refine GV.out.mono ?_
            rintro e w5 ⟨rfl, m5, b5⟩
            have b5' := below_of_chg HB.out b5
            obtain ⟨x0, x1, x2⟩ := GB.out _ b5'
            have M5 := Lib.hid (show ApartAt w q p hd w5 from ⟨_, _, m5, HH.out.chg b5 (fun h => h (.inr rfl)), b5'⟩); clear m5 b5 b5'
            go_wp2_with fail
            go_roundw
            case rel => exact ⟨k + 1, by omega, by go_num, M5⟩
            case measure => simp [intOf]; omega
      by_cases e3 : kd = 3
      · subst e3
        have PT := Lib.hid (f_put HM.out (by omega) t HT.out ⟨#[120]⟩ (by decide))
        go_wp2_with fail
        refine PT.out.mono ?_
        rintro e w5 ⟨rfl, m5, b5⟩
        have M5 := Lib.hid (show ApartAt w q p hd w5 from ⟨_, _, m5, HH.out.chg b5 (fun h => h (.inr rfl)), below_of_chg HB.out b5⟩); clear m5 b5
        go_wp2_with fail
        go_roundw
        case rel => exact ⟨k + 1, by omega, by go_num, M5⟩
        case measure => simp [intOf]; omega
      have g1 : (kd == 1) = false := by simpa using e1
      have g2 : (kd == 2) = false := by simpa using e2
      have g3 : (kd == 3) = false := by simpa using e3
      have M5 := Lib.hid (show ApartAt w q p hd wr from ⟨_, _, HM.out, HH.out, HB.out⟩)
      go_wp2_with fail
      go_roundw
      case rel => exact ⟨k + 1, by omega, by go_num, M5⟩
      case measure => simp [intOf]; omega
    · have hlt' : decide ((k : Int) < (len0 : Int)) = false := decide_eq_false (by omega)
      have HB := Lib.hid hBw
      clear hM hH hBw HR
      go_wp2_with fail
      go_ret
      exact ⟨rfl, HB.out⟩
end Go.Proofs.Yteamkchcpmoicaa
