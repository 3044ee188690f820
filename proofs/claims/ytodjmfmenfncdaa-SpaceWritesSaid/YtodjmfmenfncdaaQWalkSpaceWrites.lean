/-
  The walk of the statement SpaceWrites: true, for every input.
-/
import Derived.Test.YtodjmfmenfncdaaQSpWr2
import Derived.Test.YtodjmfmenfncdaaOpenS
namespace Go.Proofs.Ytodjmfmenfncdaa
open Go.RowKit

theorem at_wrap2 (a i : Nat) (hi : i < 9223372036854775808) : IntKind.u64.wrap (i : Int) = (i : Int) ∧ IntKind.u64.wrap ((a : Int) + (i : Int)) = (((a + i) % 18446744073709551616 : Nat) : Int) := by
  refine ⟨u64_wrap_lt i (by omega), ?_⟩
  rw [u64_wrap]
  omega
theorem quo256 (a d : Nat) (ha : a < 8388608) (hd : d = a / 256) : (a : Int).tdiv 256 = (d : Int) ∧ (a : Int) / 256 = (d : Int) ∧ IntKind.u64.wrap (d : Int) = (d : Int) ∧ IntKind.i64.wrap (d : Int) = (d : Int) ∧ wrap64 (d : Int) = (d : Int) := by
  have h : (a : Int) / 256 = (d : Int) := by omega
  refine ⟨?_, h, u64_wrap_lt d (by omega), i64_wrap_eq rfl (by omega), ?_⟩
  · rw [Int.tdiv_eq_ediv_of_nonneg (by omega)]; exact h
  · unfold wrap64; omega
def w0 : PS := ⟨frAll 0 60, fun _ => 0⟩
theorem w0_left : w0.left 60 = 60 := by decide +kernel
theorem w0_top : w0.top 60 = 0 := by decide +kernel
theorem wr_start : ∃ R, WrS (w0.take 60) R := by
  have g0 : SG 60 w0 (fun _ => none) := good_start 60 _
  have hc : 0 < w0.left 60 := by rw [w0_left]; decide
  obtain ⟨g1, r1, _⟩ := good_new g0 hc
  rw [w0_top] at g1 r1
  refine ⟨_, g1, r1, fun t i k ht hk he => ?_⟩
  unfold setR at ht
  by_cases c : t = 0
  · rw [if_pos c] at ht; cases ht
  · rw [if_neg c] at ht; cases ht
def WrAt (B q p : Nat) (wr : World) : Prop := ∃ s R, WrS s R ∧ SP B wr q p 60 s
/-- a row of numbers, read -/
theorem IL.any {B : Nat} {w : World} {sv : Value} {xs : List Int} (h : w.ownsRow B 3 1 sv xs.length (xs.map (Value.int .i64))) : ∃ ao cap, sv = .slice ao xs.length cap ∧ ∀ i (hi : i < xs.length), ∃ g, ao = some ⟨g, 0, none⟩ ∧ w.cell? ⟨g, i, none⟩ = some (.int .i64 xs[i]) := by
  obtain ⟨hl, h | ⟨g, cap, cur, rfl, hb, hg, h1, h2, h3, h4⟩⟩ := h
  · exact ⟨none, 0, by rw [h.1, h.2], fun i hi => by omega⟩
  · refine ⟨_, cap, rfl, fun i hi => ⟨g, rfl, ?_⟩⟩
    have hB : Blk w g cur 3 := hg
    rw [hB.cell i]
    have e : (cur.toList.take (xs.length * 1))[i]? = (xs.map (Value.int .i64))[i]? := by rw [h4]
    rw [List.getElem?_take_of_lt (by omega), List.getElem?_map, List.getElem?_eq_getElem hi] at e
    simpa using e
theorem getD_eq (l : List Int) (k : Nat) (h : k < l.length) : l.getD k 0 = l[k] := by rw [List.getD, List.getElem?_eq_getElem h]; rfl
theorem isB_next {l : List Int} {a k : Nat} {b : Bool} (h : isB l a k = b) : isB l a (k + 1) = (b || (decide (a < 8388608) && decide (l.getD k 0 = ((a / 256 : Nat) : Int)))) := by rw [← h]; rfl
theorem mayB_next {ok : Nat → Bool} {at_ j : Nat} {b c : Bool} (h : mayB ok at_ j = b) (h2 : ok ((at_ + j) % 18446744073709551616) = c) : mayB ok at_ (j + 1) = (b && c) := by rw [← h, ← h2]; rfl
set_option maxRecDepth 100000 in
set_option maxHeartbeats 3200000 in
theorem spaceWrites_walk (w : World) (a0 : Option Addr) (len0 cap0 : Nat) (V0 : Nat → Nat → Value) (s0 : SRow w a0 len0 1 V0) (t0 : ∀ i, i < len0 → ∃ x : Int, V0 i 0 = .int .i64 x ∧ (Lit.int .i64 x).wf = true) (_y0 : len0 * Try.prog.bytesOf 3 ≤ 140737488351232) (a1 : Int) (w1 : (Lit.int .u64 a1).wf = true) (str : ByteArray) (w2 : str.size ≤ 140737488351232) :
    Calls Try.prog 9 #[.slice a0 len0 cap0, .int .u64 a1, .string str] w fun e w' => e = .returned (.bool true) ∧ Below w.heap.size w w' := by
  obtain ⟨at_, rfl, hat64⟩ := u64_nat' w1
  have KS := Lib.hid (sp_shown w)
  have KB := Lib.hid (fun (W : World) (h : w.heap.size ≤ W.heap.size) => sp_both w.heap.size W h 60 (by omega) (by omega))
  have ADV := Lib.hid (fun (W W' : World) (h : Below w.heap.size w W) (c : Chg (fun k => ¬ k < w.heap.size) W W') => h.trans (c.below h.size (fun _ h => Nat.le_of_not_lt h)))
  have KN := fun (W : World) (q p : Nat) (H : SP w.heap.size W q p 60 w0) => sp_new H (by decide) (show 0 < w0.left 60 by rw [w0_left]; decide)
  rw [w0_top, show ((0 : Nat) : Int) = 0 from rfl] at KN
  have ST := Lib.hid wr_start
  have KM := fun (W : World) (q p : Nat) (s : PS) (R : Roles) (page : Int) (s' : PS) (e : Int) (H : SP w.heap.size W q p 60 s) (h : WrS s R) (hs : mapR 60 s 0 page 23 = (s', e)) => sp_map_any H (by decide) h.g.wf 0 page 23 h.r (by omega) hs
  rw [show ((0 : Nat) : Int) = 0 from rfl, show ((23 : Nat) : Int) = 23 from rfl] at KM
  have KP := fun (W : World) (q p : Nat) (s : PS) (R : Roles) (H : SP w.heap.size W q p 60 s) (h : WrS s R) => sp_pages H (by decide) h.g.wf 0 h.r
  rw [show ((0 : Nat) : Int) = 0 from rfl] at KP
  have hstr : str.size < 9223372036854775808 := by omega
  have S0 := Lib.hid s0; have T0 := Lib.hid t0
  have KN := Lib.hid KN; have KM := Lib.hid KM; have KP := Lib.hid KP
  have HSTR := Lib.hid (And.intro hstr hat64)
  clear s0 t0 _y0 w1 w2 hstr hat64
  generalize hsz : str.size = n at *
  have HSZ := Lib.hid hsz
  go_enter Try.func9, Try.ntmps9
  go_wp2_with fail
  refine KS.out.mono ?_
  rintro e w1 ⟨rfl, b1⟩
  have B1 := Lib.hid b1; clear b1
  go_wp2_with fail
  refine (KB.out w1 B1.out.size).mono ?_
  rintro e w2 ⟨q, p, r, rfl, m2, b2⟩
  have M2 := Lib.hid (show SP w.heap.size w2 q p 60 w0 from m2); have B2 := Lib.hid (B1.out.trans b2); clear m2 b2
  go_wp2_with fail
  refine (KN.out w2 q p M2.out).mono ?_
  rintro e w3 ⟨rfl, m3, c3⟩
  obtain ⟨R1, h1⟩ := ST.out
  have M3 := Lib.hid (show WrAt w.heap.size q p w3 ∧ Below w.heap.size w w3 from ⟨⟨_, R1, h1, m3⟩, ADV.out _ _ B2.out c3⟩); clear m3 c3 h1
  go_wp2_with fail
  go_loopw [13] (fun i wr => ∃ k : Nat, k ≤ 20 ∧ k ≤ len0 ∧ i = .int .i64 k ∧ Hid (WrAt w.heap.size q p wr ∧ Below w.heap.size w wr)) (fun i _ => 20 - (intOf i).toNat)
  case atStart => exact ⟨0, Nat.zero_le _, Nat.zero_le _, rfl, M3⟩
  case round =>
    obtain ⟨k, hk, hk2, rfl, HR⟩ := hrel
    obtain ⟨s, R, hs, hm⟩ := HR.out.1
    have HS := Lib.hid hs; have HM := Lib.hid hm
    clear hs hm
    by_cases hlt : k < len0 ∧ k < 20
    · obtain ⟨ab, off, rfl, hab, hcell⟩ : ∃ ab off, a0 = some ⟨ab, off, none⟩ ∧ ab < w.heap.size ∧ ∀ i, i < len0 → ∀ j, j < 1 → w.cell? ⟨ab, off + (i * 1 + j), none⟩ = some (V0 i j) := by
        rcases S0.out with h | h
        · omega
        · exact h
      obtain ⟨x, hx, _⟩ := T0.out k hlt.1
      have hc := hcell k hlt.1 0 (by omega)
      rw [hx, Nat.mul_one, Nat.add_zero] at hc
      have hc2 : wr.cell? ⟨ab, off + k, none⟩ = some (.int .i64 x) := by rw [HR.out.2.cell hab]; exact hc
      have d1 : decide ((k : Int) < (len0 : Int)) = true := decide_eq_true (by omega)
      have d2 : decide ((k : Int) < (20 : Int)) = true := decide_eq_true (by omega)
      have k0 : (0 : Int) ≤ (k : Int) := by omega
      have k1 : (k : Int) < (len0 : Int) := by omega
      obtain ⟨s', e, hs'⟩ : ∃ s' e, mapR 60 s 0 x 23 = (s', e) := ⟨_, _, rfl⟩
      have KM1 := Lib.hid (KM.out wr q p s R x s' e HM.out HS.out hs')
      obtain ⟨R', hb⟩ := wr_map HS.out x hs'
      have HB := Lib.hid hb
      clear hcell hc hx hs' hb
      go_wp2_with fail
      refine KM1.out.mono ?_
      rintro e1 w4 ⟨rfl, m4, c4⟩
      have M4 := Lib.hid (show WrAt w.heap.size q p w4 ∧ Below w.heap.size w w4 from ⟨⟨s', R', HB.out, m4⟩, ADV.out _ _ HR.out.2 c4⟩); clear m4 c4
      go_wp2_with fail
      go_roundw
      case rel => exact ⟨k + 1, by omega, by omega, by go_num, M4⟩
      case measure => simp [intOf]; omega
    · have hd : (decide ((k : Int) < (len0 : Int)) = false ∧ ¬ k < len0) ∨ (decide ((k : Int) < (len0 : Int)) = true ∧ decide ((k : Int) < (20 : Int)) = false ∧ k < len0 ∧ ¬ k < 20) := by
        by_cases h : k < len0
        · exact .inr ⟨decide_eq_true (by omega), decide_eq_false (by omega), h, by omega⟩
        · exact .inl ⟨decide_eq_false (by omega), h⟩
      clear hlt
      have KP1 := Lib.hid (KP.out wr q p s R HM.out HS.out)
      have HOK := Lib.hid (fun a => isB_ok HS.out.g.wf HS.out.r a)
      have hpl40 : (pagesL s.V 0).length ≤ 40000 := by
        have h1 := pgs_len (visT s.V 2 0 0 32)
        have h2 := visT_len s.V 2 0 0 32
        have h3 : 32 * 33 ^ 2 = 34848 := by decide
        rw [h3] at h2
        exact Nat.le_trans h1 (by omega)
      generalize hpl : pagesL s.V 0 = pl at *
      have HPL := Lib.hid hpl; clear hpl
      rcases hd with ⟨d1, d3⟩ | ⟨d1, d2, d3, d4⟩
      all_goals
        go_wp2_with fail
        refine KP1.out.mono ?_
        rintro e w5 ⟨sv, rfl, hu, hp, hc⟩
        have HU := Lib.hid hu
        have M5 := Lib.hid (And.intro hp (ADV.out _ _ HR.out.2 hc))
        obtain ⟨ao, cap, hsv, hcells⟩ := IL.any hu
        have HC := Lib.hid hcells
        clear hu hp hc hcells
        subst hsv
        go_wp2_with fail
        go_loopw [16, 17] (fun m i W => ∃ j : Nat, j ≤ n ∧ i = .int .i64 j ∧ m = .bool (mayB (okB 60 R 0) at_ j) ∧ W = w5) (fun _ i _ => n - (intOf i).toNat)
        case atStart => exact ⟨0, Nat.zero_le _, rfl, rfl, rfl⟩
        case round =>
          obtain ⟨j, hj, rfl, rfl, hW⟩ := hrel
          have hW2 := hW.symm
          clear hW
          subst hW2
          obtain ⟨m, hm⟩ : ∃ m, mayB (okB 60 R 0) at_ j = m := ⟨_, rfl⟩
          rw [hm]
          have HMM := Lib.hid hm
          have hn63 := HSTR.out.1
          clear hm
          by_cases hlt2 : j < n
          · have z0 : decide ((j : Int) < (n : Int)) = true := decide_eq_true (by omega)
            obtain ⟨t1, t2⟩ := at_wrap2 at_ j (by have := HSTR.out.1; omega)
            obtain ⟨X, hX⟩ : ∃ X, X = (at_ + j) % 18446744073709551616 := ⟨_, rfl⟩
            rw [← hX] at t2
            have HX := Lib.hid hX
            clear hX
            go_wp2_with fail
            clear t1 t2
            go_loopw [19, 20] (fun b i W => ∃ k : Nat, k ≤ pl.length ∧ i = .int .i64 k ∧ b = .bool (isB pl X k) ∧ W = w5) (fun _ i _ => pl.length - (intOf i).toNat)
            case atStart => exact ⟨0, Nat.zero_le _, rfl, rfl, rfl⟩
            case round =>
              obtain ⟨k, hk, rfl, rfl, hW⟩ := hrel
              have hW2 := hW.symm
              clear hW
              subst hW2
              obtain ⟨b, hb⟩ : ∃ b, isB pl X k = b := ⟨_, rfl⟩
              rw [hb]
              have NX := Lib.hid (isB_next hb)
              by_cases hlt3 : k < pl.length
              · have z1 : decide ((k : Int) < (pl.length : Int)) = true := decide_eq_true (by omega)
                obtain ⟨g, rfl, hcell⟩ := HC.out k hlt3
                have hgd := getD_eq pl k hlt3
                rw [← hgd] at hcell
                have y0 : (0 : Int) ≤ (k : Int) := Int.natCast_nonneg k
                have y1 : (k : Int) < (pl.length : Int) := Int.ofNat_lt.2 hlt3
                have HBB := Lib.hid hb
                clear hgd hb
                cases b with
                | true =>
                  go_wp2_with fail
                  go_roundw
                  case rel => exact ⟨k + 1, by omega, by go_num, by rw [NX.out]; rfl, trivial⟩
                  case measure => simp [intOf]; omega
                | false =>
                  by_cases hX8 : X < 8388608
                  · have z2 : decide ((X : Int) < (8388608 : Int)) = true := decide_eq_true (by omega)
                    obtain ⟨d, hd⟩ : ∃ d, d = X / 256 := ⟨_, rfl⟩
                    obtain ⟨q1, q2, q3, q4, q5⟩ := quo256 X d hX8 hd
                    by_cases he : pl.getD k 0 = (d : Int)
                    · have NX2 := Lib.hid (show isB pl X (k + 1) = true from by rw [NX.out, ← hd, he, decide_eq_true hX8]; simp)
                      rw [he] at hcell
                      clear he hd hX8
                      go_wp2_with fail
                      clear q1 q2 q3 q4 q5
                      go_roundw
                      case rel => exact ⟨k + 1, by omega, by go_num, by rw [NX2.out], trivial⟩
                      case measure => simp [intOf]; omega
                    · have NX2 := Lib.hid (show isB pl X (k + 1) = false from by rw [NX.out, ← hd, decide_eq_false he]; simp)
                      obtain ⟨x, hx⟩ : ∃ x, x = pl.getD k 0 := ⟨_, rfl⟩
                      rw [← hx] at hcell he
                      have ee : (x == (d : Int)) = false := beq_false_of_ne he
                      have e2 : decide (x = (d : Int)) = false := decide_eq_false he
                      clear hx hd hX8
                      go_wp2_with fail
                      clear q1 q2 q3 q4 q5
                      go_roundw
                      case rel => exact ⟨k + 1, by omega, by go_num, by rw [NX2.out], trivial⟩
                      case measure => simp [intOf]; omega
                  · have z2 : decide ((X : Int) < (8388608 : Int)) = false := decide_eq_false (by omega)
                    have NX2 := Lib.hid (show isB pl X (k + 1) = false from by rw [NX.out, decide_eq_false hX8]; rfl)
                    go_wp2_with fail
                    go_roundw
                    case rel => exact ⟨k + 1, by omega, by go_num, by rw [NX2.out], trivial⟩
                    case measure => simp [intOf]; omega
              · obtain rfl : k = pl.length := by omega
                have z1 : decide ((pl.length : Int) < (pl.length : Int)) = false := decide_eq_false (by omega)
                have hok : okB 60 R 0 ((at_ + j) % 18446744073709551616) = b := by rw [← HX.out, ← HOK.out X]; exact hb
                have NX2 := Lib.hid (mayB_next HMM.out hok)
                clear hlt3 hok hb NX
                cases m with
                | true =>
                  go_wp2_with fail
                  go_roundw
                  case rel => exact ⟨j + 1, by omega, by go_num, by rw [NX2.out]; rfl, trivial⟩
                  case measure => simp [intOf]; omega
                | false =>
                  go_wp2_with fail
                  go_roundw
                  case rel => exact ⟨j + 1, by omega, by go_num, by rw [NX2.out]; rfl, trivial⟩
                  case measure => simp [intOf]; omega
          · obtain rfl : j = n := by omega
            have z0 : decide ((j : Int) < (j : Int)) = false := decide_eq_false (by omega)
            clear hlt2
            by_cases hbig : 4096 < j
            · have z1 : decide ((4096 : Int) < (j : Int)) = true := decide_eq_true (by omega)
              go_wp2_with fail
              go_ret
              exact ⟨rfl, M5.out.2⟩
            · have z1 : decide ((4096 : Int) < (j : Int)) = false := decide_eq_false (by omega)
              have hle : str.size ≤ 4096 := by rw [HSZ.out]; omega
              have hz := HSZ.out
              have hr := HS.out.r
              have hw := HS.out.g.wf
              cases m with
              | true =>
                obtain ⟨ys, hy, g', hy', hin⟩ := wr_yes HS.out at_ str hle (by rw [hz]; exact HMM.out)
                have KO := sp_out_yes M5.out.1 (by decide) hw 0 hr at_ str hle ys hy
                generalize hV' : outV s.V ys str str.size = V' at *
                have KI := fun (S : Nat → Prop) (W : World) (H : Pl S W q p 60 0 s.Fr V') => sp_in H (by decide) g'.wf 0 hr at_ j (by omega)
                rw [hz] at hy'
                rw [hy'] at KI
                rw [show ((0 : Nat) : Int) = 0 from rfl] at KO KI
                have HI := Lib.hid hin
                have KO := Lib.hid KO; have KI := Lib.hid KI
                clear hy hy' g' hin hV' hr hw hle hz z0
                go_wp2_with fail
                refine KO.out.mono ?_
                rintro e w6 ⟨rfl, m6, c6⟩
                have hrow : inR V' (some ys) = .tuple #[.string str, .int .i64 0] := by
                  have h9 := HI.out m6.small
                  show Value.tuple #[.string ⟨(inS V' ys).toArray⟩, .int .i64 0] = _
                  rw [h9]
                have KI6 := (KI.out _ _ m6)
                rw [hrow] at KI6
                have KI6 := Lib.hid KI6
                have M6 := Lib.hid (M5.out.2.trans (c6.below M5.out.2.size (fun k hk => Nat.le_of_not_lt (fun h => hk (.inl h)))))
                clear m6 c6 hrow
                go_wp2_with fail
                refine KI6.out.mono ?_
                rintro e w7 ⟨rfl, m7, c7⟩
                have M7 := Lib.hid (M6.out.trans (c7.below M6.out.size (fun k hk => Nat.le_of_not_lt (fun h => hk (.inl h)))))
                clear m7 c7
                go_wp2_with fail
                go_ret
                exact ⟨rfl, M7.out⟩
              | false =>
                obtain ⟨hy, hy'⟩ := wr_no HS.out at_ j HMM.out
                have KO := sp_out_no M5.out.1 (by decide) hw 0 hr at_ str hle (by rw [hz]; exact hy)
                have KI := fun (S : Nat → Prop) (W : World) (H : Pl S W q p 60 0 s.Fr s.V) => sp_in H (by decide) hw 0 hr at_ j (by omega)
                rw [hy'] at KI
                rw [show ((0 : Nat) : Int) = 0 from rfl] at KO KI
                have KO := Lib.hid KO; have KI := Lib.hid KI
                clear hy hy' hr hw hle hz z0
                go_wp2_with fail
                refine KO.out.mono ?_
                rintro e w6 ⟨rfl, m6, c6⟩
                have KI6 := (KI.out _ _ m6)
                rw [show inR s.V none = .tuple #[.string ⟨#[]⟩, .int .i64 3] from rfl] at KI6
                have KI6 := Lib.hid KI6
                have M6 := Lib.hid (M5.out.2.trans (c6.below M5.out.2.size (fun k hk => Nat.le_of_not_lt (fun h => hk (.inl h)))))
                clear m6 c6
                go_wp2_with fail
                refine KI6.out.mono ?_
                rintro e w7 ⟨rfl, m7, c7⟩
                have M7 := Lib.hid (M6.out.trans (c7.below M6.out.size (fun k hk => Nat.le_of_not_lt (fun h => hk (.inl h)))))
                clear m7 c7
                go_wp2_with fail
                go_ret
                exact ⟨rfl, M7.out⟩
end Go.Proofs.Ytodjmfmenfncdaa
