/-
  Several texts in one: FYPlays.
-/
import Derived.Test.YtodjmfmenfncdaaGreatG20
import Derived.Deep.MidRow
namespace Go.Proofs.YtodjmfmenfncdaaGreat
open Go.RowKit

theorem own_mono {w : World} {B B' e sz n : Nat} {v : Value} {xs : List Value} (h : w.ownsRow B e sz v n xs) (hB : B' ≤ B) : w.ownsRow B' e sz v n xs := by
  obtain ⟨hl, h | ⟨g, cap, cur, rfl, hb, h⟩⟩ := h
  · exact ⟨hl, .inl h⟩
  · exact ⟨hl, .inr ⟨g, cap, cur, rfl, Nat.le_trans hB hb, h⟩⟩
/-- a row beside a row takes its place -/
theorem RowY.inner {S : Nat → Prop} {B B2 : Nat} {ty ty' : TypeId} {vs ys : List Value} {sv v' : Value} {q p rq r F : Nat} {s u s' u' : PS} {w0 w w' : World} (h : RowY S B ty vs sv q p rq r F s u w0 w) (k : RowY (fun k => S k ∨ sv.ownBlock = some k) B2 ty' ys v' q p rq r F s' u' w w') (hB : B ≤ B2) : RowY S B ty' ys v' q p rq r F s' u' w0 w' :=
  ⟨own_mono k.row hB, k.y.weak (fun j hj => hj.imp .inl id), h.chg.trans (k.chg.mono (fun j a b => a (.inl b))), h.le⟩
/-- .. or both stay -/
theorem RowY.outer {S : Nat → Prop} {B B2 : Nat} {ty ty' : TypeId} {vs ys : List Value} {sv v' : Value} {q p rq r F : Nat} {s u s' u' : PS} {w0 w w' : World} (h : RowY S B ty vs sv q p rq r F s u w0 w) (k : RowY (fun k => S k ∨ sv.ownBlock = some k) B2 ty' ys v' q p rq r F s' u' w w') : RowY S B ty vs sv q p rq r F s' u' w0 w' :=
  ⟨ownsRow_chg h.row k.chg (fun j hj a => a (.inr hj)), k.y.weak (fun j hj => .inl hj), h.chg.trans (k.chg.mono (fun j a b => a (.inl b))), h.le⟩
/-- the acts, in a block of S -/
def ActRow (S : Nat → Prop) (w : World) (a0 : Option Addr) (len : Nat) : Prop := len = 0 ∨ ∃ b off, a0 = some ⟨b, off, none⟩ ∧ S b ∧ b < w.heap.size ∧ ∀ i, i < len → ∃ (kd wh pg n : Int) (bits at_ : Nat) (str : ByteArray), bits < 18446744073709551616 ∧ w.rangeAt b (off + i * 7) (actC kd wh pg n bits at_ str).toList
/-- between the acts -/
structure PlaysI (S : Nat → Prop) (w0 : World) (q p rq r F : Nat) (rts : List Nat) (sv : Value) (s : PS) (R : Roles) (w : World) : Prop where
  r : RowY S w0.heap.size 3 (nI rts) sv q p rq r F s s w0 w
  g : SG F s R
  ok : RtsOk R rts
def PlaysR (S : Nat → Prop) (w0 : World) (q p rq r F len : Nat) (e : Ending) (w' : World) : Prop :=
  ∃ s R rts sv, e = .returned (.tuple #[sv, .bool true]) ∧ PlaysI S w0 q p rq r F rts sv s R w' ∧ rts.length ≤ len
theorem PlaysI.grown {S : Nat → Prop} {w0 : World} {q p rq r F : Nat} {rts : List Nat} {sv v' : Value} {s : PS} {R : Roles} {w w1 : World} {c : Array Value} {T : TypeId} {n x : Nat} (h : RowY S w0.heap.size 3 (nI rts) sv q p rq r F s s w0 w) (g : SG F s R) (ok : RtsOk R (rts ++ [x]))
    (h1 : w1.ownsRow w0.heap.size 3 1 v' n (nI rts ++ [.int .i64 (x : Nat)])) (hn : n = rts.length + 1) (hg : (w.alloc (.cells c T)).grownBy w1 sv.ownBlock) (hat : v'.ownBlock = sv.ownBlock ∨ v'.ownBlock = some (w.alloc (.cells c T)).heap.size) : PlaysI S w0 q p rq r F (rts ++ [x]) v' s R w1 := by
  refine ⟨?_, g, ok⟩
  have e : nI (rts ++ [x]) = nI rts ++ [.int .i64 (x : Nat)] := by simp [nI]
  rw [e]
  exact h.grown h1 (by rw [hn, List.length_append, nI_len]; rfl) hg hat

theorem nodup_bound : ∀ (n : Nat) (l : List Nat), l.Nodup → (∀ x ∈ l, x < n) → l.length ≤ n
  | 0, [], _, _ => Nat.le_refl _
  | 0, a :: l, _, h => absurd (h a (List.mem_cons_self ..)) (Nat.not_lt_zero _)
  | n + 1, l, hd, h => by
    by_cases c : n ∈ l
    · have h1 := nodup_bound n (l.erase n) (hd.erase n) (fun x hx => by
        have := (hd.mem_erase_iff).1 hx
        have := h x this.2
        omega)
      rw [List.length_erase_of_mem c] at h1
      omega
    · have h1 := nodup_bound n l hd (fun x hx => by
        have := h x hx
        have : x ≠ n := fun e => c (e ▸ hx)
        omega)
      omega
theorem RtsOk.small {F : Nat} {s : PS} {R : Roles} {l : List Nat} (h : RtsOk R l) (g : SG F s R) (hF : F ≤ 256) : l.length ≤ 256 :=
  Nat.le_trans (nodup_bound F l h.nodup (fun x hx => g.wf.lt _ _ (h.is x hx))) hF
theorem getD_getElem (l : List Nat) (i : Nat) (h : i < l.length) : l.getD i 0 = l[i] := by rw [List.getD, List.getElem?_eq_getElem h]; rfl
set_option maxRecDepth 100000 in
set_option maxHeartbeats 3200000 in
theorem y_plays {S : Nat → Prop} {w : World} {q p rq r F : Nat} {s : PS} {R : Roles} (h : FY S w q p rq r F s s) (hF : F ≤ 256) (g : SG F s R) (a0 : Option Addr) (len cap : Nat) (hA : ActRow S w a0 len) (hlen : len ≤ 9223372036854775807) :
    Calls Tryz.prog 8 #[.pointer (some ⟨q, 0, none⟩), .pointer (some ⟨rq, 0, none⟩), .slice a0 len cap] w (PlaysR S w q p rq r F len) := by
  obtain ⟨i0, hi, hz0, hz1, hz2⟩ := info_parts Tryz.infoIn
  have M0 := Lib.hid (show PlaysI S w q p rq r F [] (.slice none 0 0) s R w from ⟨RowY.nil h, g, ⟨List.nodup_nil, fun n hn => by cases hn⟩⟩)
  have KW := Lib.hid (fun (W : World) (sv : Value) (rts : List Nat) (s' : PS) (R' : Roles) (H : PlaysI S w q p rq r F rts sv s' R' W) (n : Int) => y_which H.r.row n)
  have LEN := Lib.hid (And.intro hlen hF)
  have HA := Lib.hid hA
  clear h hF g hA
  go_enter Tryz.func8, Tryz.ntmps8
  go_wp2_with fail
  go_loopw [8, 9] (fun l i wr => ∃ (k : Nat) (rts : List Nat) (s' : PS) (R' : Roles), k ≤ len ∧ i = .int .i64 k ∧ rts.length ≤ k ∧ Hid (PlaysI S w q p rq r F rts l s' R' wr)) (fun _ i _ => len - (intOf i).toNat)
  case atStart => exact ⟨0, [], s, R, Nat.zero_le _, rfl, Nat.le_refl _, M0⟩
  case round =>
    obtain ⟨k, rts, s1, R1, hk, rfl, hrl, HR⟩ := hrel
    by_cases hlt : k < len
    · have d1 : decide ((k : Int) < (len : Int)) = true := decide_eq_true (by omega)
      have hA := HA.out
      obtain ⟨ab, off, rfl, hSb, hbl, hac⟩ : ∃ b off, a0 = some ⟨b, off, none⟩ ∧ S b ∧ b < w.heap.size ∧ ∀ i, i < len → ∃ (kd wh pg n : Int) (bits at_ : Nat) (str : ByteArray), bits < 18446744073709551616 ∧ w.rangeAt b (off + i * 7) (actC kd wh pg n bits at_ str).toList := by
        rcases hA with h | h
        · omega
        · exact h
      obtain ⟨kd, wh, pg, n, bits, at_, str, hbits, hrg⟩ := hac k hlt
      have CEL := Lib.hid (fun (W : World) (c : Chg (fun k => ¬ S k) w W) => show W.rangeAt ab (off + k * 7) (actC kd wh pg n bits at_ str).toList from fun j v hj => by rw [c.cell hbl (fun a => a hSb)]; exact hrg j v hj)
      clear hac hrg hA
      rename_i wr
      have c0 : World.cell? wr ⟨ab, off + k * 7, none⟩ = some (.int .i64 kd) := CEL.out _ HR.out.r.chg 0 _ rfl
      have c1 := CEL.out _ HR.out.r.chg 1 _ rfl
      have hb256 : rts.length ≤ 256 := HR.out.ok.small HR.out.g LEN.out.2
      have km : rts.length + 1 ≤ maxLen := by unfold maxLen; omega
      have kb : (rts.length + 1) * 8 ≤ 140737488355328 := by omega
      obtain ⟨la, lc, rfl, hroots⟩ := nI_form HR.out.r.row
      have HROOTS := Lib.hid hroots; clear hroots
      by_cases hown : 0 ≤ wh ∧ wh < (rts.length : Int)
      · obtain ⟨m, rfl⟩ := Int.eq_ofNat_of_zero_le hown.1
        have hm : m < rts.length := by omega
        have dw0 : decide ((0 : Int) ≤ (m : Int)) = true := decide_eq_true hown.1
        have dw1 : decide ((m : Int) < (rts.length : Int)) = true := decide_eq_true hown.2
        obtain ⟨root, hrt⟩ : ∃ root, rts.getD m 0 = root := ⟨_, rfl⟩
        have hroot : R1 root = some (root, 3, 0) := by
          rw [← hrt, getD_getElem rts m hm]; exact HR.out.ok.is _ (List.getElem_mem hm)
        have KW1 := KW.out _ _ rts s1 R1 HR.out (m : Int)
        rw [whichV_own rts m hm, hrt] at KW1
        have KW1 := Lib.hid KW1
        clear hown
        by_cases k1 : kd = 1
        · subst k1
          obtain ⟨s2, R2, y, e2, g2, sub2, hx, A1⟩ := y_new LEN.out.2 HR.out.g
          have A1 := Lib.hid A1
          have z2 : (y == y) = true := by simp
          have z3 : (e2 == e2) = true := by simp
          rcases hx with ⟨rfl, x, rfl, hx1, hx2⟩ | ⟨rfl, rfl⟩
          · have G := Lib.hid (And.intro g2 (And.intro sub2 (RtsOk.add HR.out.ok sub2 hx1 hx2)))
            clear g2 sub2 hx1 hx2
            go_wp2_with (go_step3)
            refine (KW1.out).mono ?_
            rintro e w' ⟨rfl, rfl⟩
            go_wp2_with (go_step3)
            refine (A1.out.l _ _ q p rq r _ HR.out.r.y).mono ?_
            rintro e w2 ⟨rfl, m2, c2⟩
            have M2 := Lib.hid (HR.out.r.stepped (s' := s2) (u' := s1) ⟨rfl, m2, c2⟩ (v := .int .u64 0) (e := .returned (.int .u64 0))); clear m2 c2
            go_wp2_with (go_step3)
            refine (A1.out.r _ _ q p rq r _ M2.out.y).mono ?_
            rintro e w3 ⟨rfl, m3, c3⟩
            have M3 := Lib.hid (show PlaysI S w q p rq r F rts (.slice la rts.length lc) s2 R2 w3 from ⟨M2.out.stepped ⟨rfl, m3, c3⟩ (v := .int .u64 0) (e := .returned (.int .u64 0)), G.out.1, RtsOk.sub HR.out.ok G.out.2.1⟩); clear m3 c3
            generalize Value.slice la rts.length lc = sv at *
            have hU9 := M3.out.r.row
            have hn9 : (nI rts).length = rts.length := nI_len rts
            rw [hn9] at hU9
            have hszz : w.heap.size ≤ w3.heap.size := M3.out.r.chg.size
            go_wp2_with (at_builtin; refine wpList_append_own_at _ rfl (.tmp 101) (.tmp 103) 30 rfl w.heap.size 3 i0 (.int .i64 0) 1 8 Tryz.underlying30 hi hz0 hz1 hz2 rfl (by decide) _ _ _ rfl (hU9.alloc _) ⟨w3.heap.size, 0, none⟩ 1 1 [.int .i64 (x : Nat)] rfl rfl (cell_one_new _ _ _) (by simp [Value.oneCell']) km kb (by simp; omega) ?_; intro v' w6 hown1 hgrow1 _ hat1; have N6 := Lib.hid (PlaysI.grown (M3.out.r) G.out.1 G.out.2.2 hown1 rfl hgrow1 hat1); clear hown1 hgrow1 hat1)
            go_roundw
            case rel => exact ⟨k + 1, rts ++ [x], s2, R2, by omega, by go_num, by simp; omega, N6⟩
            case measure => simp [intOf]; omega
          · have G := Lib.hid (And.intro g2 sub2)
            clear g2 sub2
            go_wp2_with (go_step3)
            refine (KW1.out).mono ?_
            rintro e w' ⟨rfl, rfl⟩
            go_wp2_with (go_step3)
            refine (A1.out.l _ _ q p rq r _ HR.out.r.y).mono ?_
            rintro e w2 ⟨rfl, m2, c2⟩
            have M2 := Lib.hid (HR.out.r.stepped (s' := s2) (u' := s1) ⟨rfl, m2, c2⟩ (v := .int .u64 0) (e := .returned (.int .u64 0))); clear m2 c2
            go_wp2_with (go_step3)
            refine (A1.out.r _ _ q p rq r _ M2.out.y).mono ?_
            rintro e w3 ⟨rfl, m3, c3⟩
            have M3 := Lib.hid (show PlaysI S w q p rq r F rts (.slice la rts.length lc) s2 R2 w3 from ⟨M2.out.stepped ⟨rfl, m3, c3⟩ (v := .int .u64 0) (e := .returned (.int .u64 0)), G.out.1, RtsOk.sub HR.out.ok G.out.2⟩); clear m3 c3
            go_wp2_with (go_step3)
            go_roundw
            case rel => exact ⟨k + 1, rts, s2, R2, by omega, by go_num, by omega, M3⟩
            case measure => simp [intOf]; omega
        · by_cases k3 : kd = 3
          · subst k3
            obtain ⟨s2, R2, g2, sub2, A1, A2⟩ := y_free LEN.out.2 HR.out.g root hroot
            have ok2 : RtsOk R2 (restL rts m rts.length) := HR.out.ok.off hm (fun f x hf hne => sub2 f x hf (by rw [← getD_getElem rts m hm, hrt] at hne; exact hne))
            have A1 := Lib.hid A1; have A2 := Lib.hid A2
            have G := Lib.hid (And.intro g2 ok2)
            clear g2 sub2 ok2 hroot hrt
            go_wp2_with (go_step3)
            refine (KW1.out).mono ?_
            rintro e w' ⟨rfl, rfl⟩
            go_wp2_with (go_step3)
            refine (A1.out _ _ q p rq r _ HR.out.r.y).mono ?_
            rintro e w2 ⟨rfl, m2, c2⟩
            have M2 := Lib.hid (HR.out.r.stepped (s' := s2) (u' := s1) ⟨rfl, m2, c2⟩ (v := .int .u64 0) (e := .returned (.int .u64 0))); clear m2 c2
            go_wp2_with (go_step3)
            refine (A2.out _ _ q p rq r _ M2.out.y).mono ?_
            rintro e w3 ⟨rfl, m3, c3⟩
            have M3 := Lib.hid (M2.out.stepped (s' := s2) (u' := s2) ⟨rfl, m3, c3⟩ (v := .int .u64 0) (e := .returned (.int .u64 0))); clear m3 c3
            have M4 := Lib.hid (RowY.nil (ty := 3) M3.out.y)
            go_wp2_with (go_step3)
            go_loopw [17, 18] (fun l i W => ∃ (j : Nat) (W' : World), W' = W ∧ j ≤ rts.length ∧ i = .int .i64 j ∧ Hid (RowY (fun k => S k ∨ Value.ownBlock (.slice la rts.length lc) = some k) w3.heap.size 3 (nI (restL rts m j)) l q p rq r F s2 s2 w3 W')) (fun _ i _ => rts.length - (intOf i).toNat)
            case atStart => exact ⟨0, _, rfl, Nat.zero_le _, rfl, M4⟩
            case round =>
              obtain ⟨j, wj, rfl, hj, rfl, HJ⟩ := hrel
              have c1 := CEL.out wj (M3.out.chg.trans (HJ.out.chg.mono (fun _ a b => a (.inl b)))) 1 _ rfl
              obtain ⟨la2, lc2, hl, hroots⟩ := nI_form (M3.out.outer HJ.out).row
              obtain ⟨rfl, _, rfl⟩ := Value.slice.inj hl
              clear hl
              by_cases hjl : j < rts.length
              · have d2 : decide ((j : Int) < (rts.length : Int)) = true := decide_eq_true (by omega)
                by_cases hjm : j = m
                · have z5 : ((j : Int) == (m : Int)) = true := by simp [hjm]
                  have e5 : restL rts m (j + 1) = restL rts m j := by
                    show restL rts m j ++ (if j = m then [] else [rts.getD j 0]) = _
                    rw [if_pos hjm, List.append_nil]
                  go_wp2_with (go_step3)
                  go_roundw
                  case rel => exact ⟨j + 1, _, rfl, by omega, by go_num, by rw [e5]; exact HJ⟩
                  case measure => simp [intOf]; omega
                · have z5 : ((j : Int) == (m : Int)) = false := by simpa using (show ¬ ((j : Int) = (m : Int)) by omega)
                  obtain ⟨gg, rfl, _, hx⟩ := hroots j hjl
                  have hU9 := HJ.out.row
                  have hlr := restL_le rts m j
                  have hszz : w3.heap.size ≤ wj.heap.size := HJ.out.chg.size
                  have km2 : (nI (restL rts m j)).length + 1 ≤ maxLen := by rw [nI_len]; omega
                  have kb2 : ((nI (restL rts m j)).length + 1) * 8 ≤ 140737488355328 := by rw [nI_len]; omega
                  have e5 : nI (restL rts m (j + 1)) = nI (restL rts m j) ++ [.int .i64 (rts.getD j 0 : Nat)] := by
                    show nI (restL rts m j ++ (if j = m then [] else [rts.getD j 0])) = _
                    rw [if_neg hjm]; simp [nI]
                  generalize rts.getD j 0 = x at *
                  go_wp2_with (at_builtin; refine wpList_append_own_at _ rfl (.tmp 130) (.tmp 135) 30 rfl w3.heap.size 3 i0 (.int .i64 0) 1 8 Tryz.underlying30 hi hz0 hz1 hz2 rfl (by decide) _ _ _ rfl (hU9.alloc _) ⟨wj.heap.size, 0, none⟩ 1 1 [.int .i64 (x : Nat)] rfl rfl (cell_one_new _ _ _) (by simp [Value.oneCell']) km2 kb2 (by simp; omega) ?_; intro v' w6 hown1 hgrow1 _ hat1; have N6 := Lib.hid (HJ.out.grown hown1 (by simp) hgrow1 hat1); clear hown1 hgrow1 hat1)
                  rw [← e5] at N6
                  go_roundw
                  case rel => exact ⟨j + 1, _, rfl, by omega, by go_num, N6⟩
                  case measure => simp [intOf]; omega
              · have d2 : decide ((j : Int) < (rts.length : Int)) = false := decide_eq_false (by omega)
                obtain rfl : j = rts.length := by omega
                have N6 := Lib.hid (show PlaysI S w q p rq r F (restL rts m rts.length) _ s2 R2 wj from ⟨M3.out.inner HJ.out (M3.out.chg.size), G.out.1, G.out.2⟩)
                have hlr := restL_le rts m rts.length
                go_wp2_with (go_step3)
                go_roundw
                case rel => exact ⟨k + 1, restL rts m rts.length, s2, R2, by omega, by go_num, by omega, N6⟩
                case measure => simp [intOf]; omega
          · by_cases k4 : kd = 4
            · subst k4
              obtain ⟨s2, R2, y, e2, g2, sub2, hx, A1⟩ := y_copy LEN.out.2 HR.out.g root hroot
              have A1 := Lib.hid A1
              have z2 : (y == y) = true := by simp
              have z3 : (e2 == e2) = true := by simp
              rcases hx with ⟨rfl, x, rfl, hx1, hx2⟩ | ⟨rfl, rfl⟩
              · have G := Lib.hid (And.intro g2 (And.intro sub2 (RtsOk.add HR.out.ok sub2 hx1 hx2)))
                clear g2 sub2 hx1 hx2
                go_wp2_with (go_step3)
                refine (KW1.out).mono ?_
                rintro e w' ⟨rfl, rfl⟩
                go_wp2_with (go_step3)
                refine (A1.out.l _ _ q p rq r _ HR.out.r.y).mono ?_
                rintro e w2 ⟨rfl, m2, c2⟩
                have M2 := Lib.hid (HR.out.r.stepped (s' := s2) (u' := s1) ⟨rfl, m2, c2⟩ (v := .int .u64 0) (e := .returned (.int .u64 0))); clear m2 c2
                go_wp2_with (go_step3)
                refine (A1.out.r _ _ q p rq r _ M2.out.y).mono ?_
                rintro e w3 ⟨rfl, m3, c3⟩
                have M3 := Lib.hid (show PlaysI S w q p rq r F rts (.slice la rts.length lc) s2 R2 w3 from ⟨M2.out.stepped ⟨rfl, m3, c3⟩ (v := .int .u64 0) (e := .returned (.int .u64 0)), G.out.1, RtsOk.sub HR.out.ok G.out.2.1⟩); clear m3 c3
                generalize Value.slice la rts.length lc = sv at *
                have hU9 := M3.out.r.row
                have hn9 : (nI rts).length = rts.length := nI_len rts
                rw [hn9] at hU9
                have hszz : w.heap.size ≤ w3.heap.size := M3.out.r.chg.size
                go_wp2_with (at_builtin; refine wpList_append_own_at _ rfl (.tmp 164) (.tmp 166) 30 rfl w.heap.size 3 i0 (.int .i64 0) 1 8 Tryz.underlying30 hi hz0 hz1 hz2 rfl (by decide) _ _ _ rfl (hU9.alloc _) ⟨w3.heap.size, 0, none⟩ 1 1 [.int .i64 (x : Nat)] rfl rfl (cell_one_new _ _ _) (by simp [Value.oneCell']) km kb (by simp; omega) ?_; intro v' w6 hown1 hgrow1 _ hat1; have N6 := Lib.hid (PlaysI.grown (M3.out.r) G.out.1 G.out.2.2 hown1 rfl hgrow1 hat1); clear hown1 hgrow1 hat1)
                go_roundw
                case rel => exact ⟨k + 1, rts ++ [x], s2, R2, by omega, by go_num, by simp; omega, N6⟩
                case measure => simp [intOf]; omega
              · have G := Lib.hid (And.intro g2 sub2)
                clear g2 sub2
                go_wp2_with (go_step3)
                refine (KW1.out).mono ?_
                rintro e w' ⟨rfl, rfl⟩
                go_wp2_with (go_step3)
                refine (A1.out.l _ _ q p rq r _ HR.out.r.y).mono ?_
                rintro e w2 ⟨rfl, m2, c2⟩
                have M2 := Lib.hid (HR.out.r.stepped (s' := s2) (u' := s1) ⟨rfl, m2, c2⟩ (v := .int .u64 0) (e := .returned (.int .u64 0))); clear m2 c2
                go_wp2_with (go_step3)
                refine (A1.out.r _ _ q p rq r _ M2.out.y).mono ?_
                rintro e w3 ⟨rfl, m3, c3⟩
                have M3 := Lib.hid (show PlaysI S w q p rq r F rts (.slice la rts.length lc) s2 R2 w3 from ⟨M2.out.stepped ⟨rfl, m3, c3⟩ (v := .int .u64 0) (e := .returned (.int .u64 0)), G.out.1, RtsOk.sub HR.out.ok G.out.2⟩); clear m3 c3
                go_wp2_with (go_step3)
                go_roundw
                case rel => exact ⟨k + 1, rts, s2, R2, by omega, by go_num, by omega, M3⟩
                case measure => simp [intOf]; omega
            · have f1 : ((kd : Int) == (1 : Int)) = false := by simpa using k1
              have f3 : ((kd : Int) == (3 : Int)) = false := by simpa using k3
              have f4 : ((kd : Int) == (4 : Int)) = false := by simpa using k4
              have D1 := Lib.hid (y_does HR.out.r.y LEN.out.2 HR.out.g (root : Int) kd (m : Int) pg n bits at_ str hbits (.inl ⟨root, rfl, hroot⟩))
              have cc2 : World.cell? wr ⟨ab, off + k * 7 + 2, none⟩ = some (.int .i64 pg) := CEL.out _ HR.out.r.chg 2 _ rfl
              have cc3 : World.cell? wr ⟨ab, off + k * 7 + 3, none⟩ = some (.int .i64 n) := CEL.out _ HR.out.r.chg 3 _ rfl
              have cc4 : World.cell? wr ⟨ab, off + k * 7 + 4, none⟩ = some (.int .u64 bits) := CEL.out _ HR.out.r.chg 4 _ rfl
              have cc5 : World.cell? wr ⟨ab, off + k * 7 + 5, none⟩ = some (.int .u64 at_) := CEL.out _ HR.out.r.chg 5 _ rfl
              have cc6 : World.cell? wr ⟨ab, off + k * 7 + 6, none⟩ = some (.string str) := CEL.out _ HR.out.r.chg 6 _ rfl
              clear hroot hrt
              go_wp2_with (go_step3)
              refine (KW1.out).mono ?_
              rintro e w' ⟨rfl, rfl⟩
              go_wp2_with (go_step3)
              refine (D1.out).mono ?_
              rintro e w2 ⟨s2, R2, rfl, m2, g2, sub2, c2⟩
              have M3 := Lib.hid (show PlaysI S w q p rq r F rts (.slice la rts.length lc) s2 R2 w2 from ⟨HR.out.r.stepped ⟨rfl, m2, c2⟩ (v := .int .u64 0) (e := .returned (.int .u64 0)), g2, RtsOk.sub HR.out.ok sub2⟩); clear m2 c2 g2 sub2
              go_wp2_with (go_step3)
              go_roundw
              case rel => exact ⟨k + 1, rts, s2, R2, by omega, by go_num, by omega, M3⟩
              case measure => simp [intOf]; omega
      · have KW1 := KW.out _ _ rts s1 R1 HR.out wh
        rw [whichV_not rts wh hown] at KW1
        have KW1 := Lib.hid KW1
        by_cases hneg : wh < 0
        · have dw0 : decide ((0 : Int) ≤ wh) = false := decide_eq_false (by omega)
          have dw2 : decide (wh < (0 : Int)) = true := decide_eq_true (by omega)
          have hbad : tkB F s1.Fr wh = false := by unfold tkB; rw [decide_eq_false (by omega)]; rfl
          by_cases k1 : kd = 1
          · subst k1
            obtain ⟨s2, R2, y, e2, g2, sub2, hx, A1⟩ := y_new LEN.out.2 HR.out.g
            have A1 := Lib.hid A1
            have z2 : (y == y) = true := by simp
            have z3 : (e2 == e2) = true := by simp
            rcases hx with ⟨rfl, x, rfl, hx1, hx2⟩ | ⟨rfl, rfl⟩
            · have G := Lib.hid (And.intro g2 (And.intro sub2 (RtsOk.add HR.out.ok sub2 hx1 hx2)))
              clear g2 sub2 hx1 hx2
              go_wp2_with (go_step3)
              refine (KW1.out).mono ?_
              rintro e w' ⟨rfl, rfl⟩
              go_wp2_with (go_step3)
              refine (A1.out.l _ _ q p rq r _ HR.out.r.y).mono ?_
              rintro e w2 ⟨rfl, m2, c2⟩
              have M2 := Lib.hid (HR.out.r.stepped (s' := s2) (u' := s1) ⟨rfl, m2, c2⟩ (v := .int .u64 0) (e := .returned (.int .u64 0))); clear m2 c2
              go_wp2_with (go_step3)
              refine (A1.out.r _ _ q p rq r _ M2.out.y).mono ?_
              rintro e w3 ⟨rfl, m3, c3⟩
              have M3 := Lib.hid (show PlaysI S w q p rq r F rts (.slice la rts.length lc) s2 R2 w3 from ⟨M2.out.stepped ⟨rfl, m3, c3⟩ (v := .int .u64 0) (e := .returned (.int .u64 0)), G.out.1, RtsOk.sub HR.out.ok G.out.2.1⟩); clear m3 c3
              generalize Value.slice la rts.length lc = sv at *
              have hU9 := M3.out.r.row
              have hn9 : (nI rts).length = rts.length := nI_len rts
              rw [hn9] at hU9
              have hszz : w.heap.size ≤ w3.heap.size := M3.out.r.chg.size
              go_wp2_with (at_builtin; refine wpList_append_own_at _ rfl (.tmp 101) (.tmp 103) 30 rfl w.heap.size 3 i0 (.int .i64 0) 1 8 Tryz.underlying30 hi hz0 hz1 hz2 rfl (by decide) _ _ _ rfl (hU9.alloc _) ⟨w3.heap.size, 0, none⟩ 1 1 [.int .i64 (x : Nat)] rfl rfl (cell_one_new _ _ _) (by simp [Value.oneCell']) km kb (by simp; omega) ?_; intro v' w6 hown1 hgrow1 _ hat1; have N6 := Lib.hid (PlaysI.grown (M3.out.r) G.out.1 G.out.2.2 hown1 rfl hgrow1 hat1); clear hown1 hgrow1 hat1)
              go_roundw
              case rel => exact ⟨k + 1, rts ++ [x], s2, R2, by omega, by go_num, by simp; omega, N6⟩
              case measure => simp [intOf]; omega
            · have G := Lib.hid (And.intro g2 sub2)
              clear g2 sub2
              go_wp2_with (go_step3)
              refine (KW1.out).mono ?_
              rintro e w' ⟨rfl, rfl⟩
              go_wp2_with (go_step3)
              refine (A1.out.l _ _ q p rq r _ HR.out.r.y).mono ?_
              rintro e w2 ⟨rfl, m2, c2⟩
              have M2 := Lib.hid (HR.out.r.stepped (s' := s2) (u' := s1) ⟨rfl, m2, c2⟩ (v := .int .u64 0) (e := .returned (.int .u64 0))); clear m2 c2
              go_wp2_with (go_step3)
              refine (A1.out.r _ _ q p rq r _ M2.out.y).mono ?_
              rintro e w3 ⟨rfl, m3, c3⟩
              have M3 := Lib.hid (show PlaysI S w q p rq r F rts (.slice la rts.length lc) s2 R2 w3 from ⟨M2.out.stepped ⟨rfl, m3, c3⟩ (v := .int .u64 0) (e := .returned (.int .u64 0)), G.out.1, RtsOk.sub HR.out.ok G.out.2⟩); clear m3 c3
              go_wp2_with (go_step3)
              go_roundw
              case rel => exact ⟨k + 1, rts, s2, R2, by omega, by go_num, by omega, M3⟩
              case measure => simp [intOf]; omega
          · by_cases k3 : kd = 3
            · subst k3
              clear hown
              go_wp2_with (go_step3)
              refine (KW1.out).mono ?_
              rintro e w' ⟨rfl, rfl⟩
              go_wp2_with (go_step3)
              have M3 := HR
              go_roundw
              case rel => exact ⟨k + 1, rts, s1, R1, by omega, by go_num, by omega, M3⟩
              case measure => simp [intOf]; omega
            · by_cases k4 : kd = 4
              · subst k4
                clear hown
                go_wp2_with (go_step3)
                refine (KW1.out).mono ?_
                rintro e w' ⟨rfl, rfl⟩
                go_wp2_with (go_step3)
                have M3 := HR
                go_roundw
                case rel => exact ⟨k + 1, rts, s1, R1, by omega, by go_num, by omega, M3⟩
                case measure => simp [intOf]; omega
              · have f1 : ((kd : Int) == (1 : Int)) = false := by simpa using k1
                have f3 : ((kd : Int) == (3 : Int)) = false := by simpa using k3
                have f4 : ((kd : Int) == (4 : Int)) = false := by simpa using k4
                have D1 := Lib.hid (y_does HR.out.r.y LEN.out.2 HR.out.g wh kd wh pg n bits at_ str hbits (.inr hbad))
                have cc2 : World.cell? wr ⟨ab, off + k * 7 + 2, none⟩ = some (.int .i64 pg) := CEL.out _ HR.out.r.chg 2 _ rfl
                have cc3 : World.cell? wr ⟨ab, off + k * 7 + 3, none⟩ = some (.int .i64 n) := CEL.out _ HR.out.r.chg 3 _ rfl
                have cc4 : World.cell? wr ⟨ab, off + k * 7 + 4, none⟩ = some (.int .u64 bits) := CEL.out _ HR.out.r.chg 4 _ rfl
                have cc5 : World.cell? wr ⟨ab, off + k * 7 + 5, none⟩ = some (.int .u64 at_) := CEL.out _ HR.out.r.chg 5 _ rfl
                have cc6 : World.cell? wr ⟨ab, off + k * 7 + 6, none⟩ = some (.string str) := CEL.out _ HR.out.r.chg 6 _ rfl
                go_wp2_with (go_step3)
                refine (KW1.out).mono ?_
                rintro e w' ⟨rfl, rfl⟩
                go_wp2_with (go_step3)
                refine (D1.out).mono ?_
                rintro e w2 ⟨s2, R2, rfl, m2, g2, sub2, c2⟩
                have M3 := Lib.hid (show PlaysI S w q p rq r F rts (.slice la rts.length lc) s2 R2 w2 from ⟨HR.out.r.stepped ⟨rfl, m2, c2⟩ (v := .int .u64 0) (e := .returned (.int .u64 0)), g2, RtsOk.sub HR.out.ok sub2⟩); clear m2 c2 g2 sub2
                go_wp2_with (go_step3)
                go_roundw
                case rel => exact ⟨k + 1, rts, s2, R2, by omega, by go_num, by omega, M3⟩
                case measure => simp [intOf]; omega
        · have dw0 : decide ((0 : Int) ≤ wh) = true := decide_eq_true (by omega)
          have dw1 : decide (wh < (rts.length : Int)) = false := decide_eq_false (by omega)
          have dw2 : decide (wh < (0 : Int)) = false := decide_eq_false (by omega)
          by_cases k1 : kd = 1
          · subst k1
            obtain ⟨s2, R2, y, e2, g2, sub2, hx, A1⟩ := y_new LEN.out.2 HR.out.g
            have A1 := Lib.hid A1
            have z2 : (y == y) = true := by simp
            have z3 : (e2 == e2) = true := by simp
            rcases hx with ⟨rfl, x, rfl, hx1, hx2⟩ | ⟨rfl, rfl⟩
            · have G := Lib.hid (And.intro g2 (And.intro sub2 (RtsOk.add HR.out.ok sub2 hx1 hx2)))
              clear g2 sub2 hx1 hx2
              go_wp2_with (go_step3)
              refine (KW1.out).mono ?_
              rintro e w' ⟨rfl, rfl⟩
              go_wp2_with (go_step3)
              refine (A1.out.l _ _ q p rq r _ HR.out.r.y).mono ?_
              rintro e w2 ⟨rfl, m2, c2⟩
              have M2 := Lib.hid (HR.out.r.stepped (s' := s2) (u' := s1) ⟨rfl, m2, c2⟩ (v := .int .u64 0) (e := .returned (.int .u64 0))); clear m2 c2
              go_wp2_with (go_step3)
              refine (A1.out.r _ _ q p rq r _ M2.out.y).mono ?_
              rintro e w3 ⟨rfl, m3, c3⟩
              have M3 := Lib.hid (show PlaysI S w q p rq r F rts (.slice la rts.length lc) s2 R2 w3 from ⟨M2.out.stepped ⟨rfl, m3, c3⟩ (v := .int .u64 0) (e := .returned (.int .u64 0)), G.out.1, RtsOk.sub HR.out.ok G.out.2.1⟩); clear m3 c3
              generalize Value.slice la rts.length lc = sv at *
              have hU9 := M3.out.r.row
              have hn9 : (nI rts).length = rts.length := nI_len rts
              rw [hn9] at hU9
              have hszz : w.heap.size ≤ w3.heap.size := M3.out.r.chg.size
              go_wp2_with (at_builtin; refine wpList_append_own_at _ rfl (.tmp 101) (.tmp 103) 30 rfl w.heap.size 3 i0 (.int .i64 0) 1 8 Tryz.underlying30 hi hz0 hz1 hz2 rfl (by decide) _ _ _ rfl (hU9.alloc _) ⟨w3.heap.size, 0, none⟩ 1 1 [.int .i64 (x : Nat)] rfl rfl (cell_one_new _ _ _) (by simp [Value.oneCell']) km kb (by simp; omega) ?_; intro v' w6 hown1 hgrow1 _ hat1; have N6 := Lib.hid (PlaysI.grown (M3.out.r) G.out.1 G.out.2.2 hown1 rfl hgrow1 hat1); clear hown1 hgrow1 hat1)
              go_roundw
              case rel => exact ⟨k + 1, rts ++ [x], s2, R2, by omega, by go_num, by simp; omega, N6⟩
              case measure => simp [intOf]; omega
            · have G := Lib.hid (And.intro g2 sub2)
              clear g2 sub2
              go_wp2_with (go_step3)
              refine (KW1.out).mono ?_
              rintro e w' ⟨rfl, rfl⟩
              go_wp2_with (go_step3)
              refine (A1.out.l _ _ q p rq r _ HR.out.r.y).mono ?_
              rintro e w2 ⟨rfl, m2, c2⟩
              have M2 := Lib.hid (HR.out.r.stepped (s' := s2) (u' := s1) ⟨rfl, m2, c2⟩ (v := .int .u64 0) (e := .returned (.int .u64 0))); clear m2 c2
              go_wp2_with (go_step3)
              refine (A1.out.r _ _ q p rq r _ M2.out.y).mono ?_
              rintro e w3 ⟨rfl, m3, c3⟩
              have M3 := Lib.hid (show PlaysI S w q p rq r F rts (.slice la rts.length lc) s2 R2 w3 from ⟨M2.out.stepped ⟨rfl, m3, c3⟩ (v := .int .u64 0) (e := .returned (.int .u64 0)), G.out.1, RtsOk.sub HR.out.ok G.out.2⟩); clear m3 c3
              go_wp2_with (go_step3)
              go_roundw
              case rel => exact ⟨k + 1, rts, s2, R2, by omega, by go_num, by omega, M3⟩
              case measure => simp [intOf]; omega
          · by_cases k3 : kd = 3
            · subst k3
              clear hown
              go_wp2_with (go_step3)
              refine (KW1.out).mono ?_
              rintro e w' ⟨rfl, rfl⟩
              go_wp2_with (go_step3)
              have M3 := HR
              go_roundw
              case rel => exact ⟨k + 1, rts, s1, R1, by omega, by go_num, by omega, M3⟩
              case measure => simp [intOf]; omega
            · by_cases k4 : kd = 4
              · subst k4
                clear hown
                go_wp2_with (go_step3)
                refine (KW1.out).mono ?_
                rintro e w' ⟨rfl, rfl⟩
                go_wp2_with (go_step3)
                have M3 := HR
                go_roundw
                case rel => exact ⟨k + 1, rts, s1, R1, by omega, by go_num, by omega, M3⟩
                case measure => simp [intOf]; omega
              · have f1 : ((kd : Int) == (1 : Int)) = false := by simpa using k1
                have f3 : ((kd : Int) == (3 : Int)) = false := by simpa using k3
                have f4 : ((kd : Int) == (4 : Int)) = false := by simpa using k4
                clear hown
                go_wp2_with (go_step3)
                refine (KW1.out).mono ?_
                rintro e w' ⟨rfl, rfl⟩
                go_wp2_with (go_step3)
                have M3 := HR
                go_roundw
                case rel => exact ⟨k + 1, rts, s1, R1, by omega, by go_num, by omega, M3⟩
                case measure => simp [intOf]; omega
    · have d1 : decide ((k : Int) < (len : Int)) = false := decide_eq_false (by omega)
      go_wp2_with (go_step3)
      try rw [Exit.noGoto_ret]
      go_ret2
      exact ⟨s1, R1, rts, _, rfl, HR.out, by omega⟩
end Go.Proofs.YtodjmfmenfncdaaGreat
