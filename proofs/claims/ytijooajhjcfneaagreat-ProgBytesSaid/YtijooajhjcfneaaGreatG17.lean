/-
  Several texts in one: RQPg, RQPg2, RQFree, RQFree2.
-/
import Derived.Test.YtijooajhjcfneaaGreatG16
namespace Go.Proofs.YtijooajhjcfneaaGreat
open Go.RowKit

theorem Tryz.infoPage : (Tryz.prog.info? 67).map (fun i => (i.zero, i.size, i.bytes)) = some (some (.agg #[.int .i64 0, .int .u64 0, .int .i64 0]), 3, 24) := by kernel_rfl
/-- a page's cells -/
def pgC (v : Int × Nat) : List Value := [.int .i64 v.1, .int .u64 ((v.2 % 32 : Nat) : Int), .int .i64 ((v.2 / 1024 : Nat) : Int)]
def pgCs (L : List (Int × Nat)) : List Value := L.flatMap pgC
theorem pgCs_next (L : List (Int × Nat)) (v : Int × Nat) : pgCs (L ++ [v]) = pgCs L ++ pgC v := by
  unfold pgCs
  rw [List.flatMap_append]
  simp
theorem pgCs_len : ∀ L : List (Int × Nat), (pgCs L).length = L.length * 3
  | [] => rfl
  | v :: L => by
    have h : pgCs (v :: L) = pgC v ++ pgCs L := by unfold pgCs; rw [List.flatMap_cons]
    rw [h, List.length_append, pgCs_len L, List.length_cons]
    show 3 + _ = _
    omega
structure DocAt (S : Nat → Prop) (w : World) (rq r F : Nat) (Fr : Nat → Bool) (U : Nat → Nat) (svl svt : Value) (L : List (Int × Nat)) (T : List Nat) (wr : World) : Prop where
  hl : wr.ownsRow w.heap.size 67 3 svl L.length (pgCs L)
  ht : wr.ownsRow w.heap.size 3 1 svt T.length (T.map fun x => Value.int .i64 (x : Nat))
  q : RQ (fun k => S k ∨ svl.ownBlock = some k ∨ svt.ownBlock = some k) wr rq r F Fr U
  chg : Chg (fun k => ¬ S k) w wr
  dis : ∀ k, svl.ownBlock = some k → svt.ownBlock ≠ some k
theorem DocAt.start {S : Nat → Prop} {w : World} {rq r F : Nat} {Fr : Nat → Bool} {U : Nat → Nat} (h : RQ S w rq r F Fr U) : DocAt S w rq r F Fr U (.slice none 0 0) (.slice none 0 0) [] [] w :=
  ⟨World.ownsRow_nil _ _ _ _, World.ownsRow_nil _ _ _ _, h.weak (fun k hk => by rcases hk with hk | hk | hk; exact hk; cases hk; cases hk), Chg.refl _ _, fun k hk => by cases hk⟩
theorem DocAt.stepped {S : Nat → Prop} {w wr w' : World} {rq r F : Nat} {Fr Fr' : Nat → Bool} {U U' : Nat → Nat} {svl svt v : Value} {L : List (Int × Nat)} {T : List Nat} {e : Ending} (h : DocAt S w rq r F Fr U svl svt L T wr) (k : StepQ (fun k => S k ∨ svl.ownBlock = some k ∨ svt.ownBlock = some k) wr rq r F Fr' U' v e w') : DocAt S w rq r F Fr' U' svl svt L T w' :=
  ⟨ownsRow_chg h.hl k.2.2 (fun k hk a => a (.inr (.inl hk))), ownsRow_chg h.ht k.2.2 (fun k hk a => a (.inr (.inr hk))), k.2.1, h.chg.trans (k.2.2.mono (fun k a b => a (.inl b))), h.dis⟩
/-- a table more -/
theorem DocAt.addT {S : Nat → Prop} {w wr w1 : World} {rq r F TT : Nat} {Fr : Nat → Bool} {U : Nat → Nat} {svl svt v' : Value} {c : Array Value} {L : List (Int × Nat)} {T : List Nat} {x : Nat} (h : DocAt S w rq r F Fr U svl svt L T wr)
    (h1 : w1.ownsRow w.heap.size 3 1 v' (T.length + 1) ((T.map fun x => Value.int .i64 (x : Nat)) ++ [.int .i64 (x : Nat)])) (hg : (wr.alloc (.cells c TT)).grownBy w1 svt.ownBlock) (hat : v'.ownBlock = svt.ownBlock ∨ v'.ownBlock = some (wr.alloc (.cells c TT)).heap.size) :
    DocAt S w rq r F Fr U svl v' L (T ++ [x]) w1 := by
  have hc : Chg (fun k => svt.ownBlock = some k) wr w1 := ((Chg.refl _ wr).alloc _).grown hg (fun k hk => .inl hk)
  have hz : (wr.alloc (.cells c TT)).heap.size = wr.heap.size + 1 := by simp
  have hnew : ∀ k, v'.ownBlock = some k → svt.ownBlock = some k ∨ wr.heap.size ≤ k := fun k hk => by
    rcases hat with e | e
    · exact .inl (e ▸ hk)
    · rw [e, hz] at hk
      cases hk
      exact .inr (by omega)
  refine ⟨ownsRow_chg h.hl hc (fun k hk e => h.dis k hk e), ?_, h.q.beside hc (fun k hk => .inr (.inr hk)) (fun k hk => ?_) (fun k hk => ?_), h.chg.trans' hc (fun k hk => .inr (ownsRow_lt h.ht k hk).1), fun k hk hk2 => ?_⟩
  · rw [List.length_append, List.map_append]; exact h1
  · rcases hk with hk | hk | hk
    · exact .inl (.inl hk)
    · exact .inl (.inr (.inl hk))
    · exact (hnew k hk).imp (fun e => .inr (.inr e)) id
  · rcases hk with hk | hk | hk
    · exact Nat.lt_of_lt_of_le (h.q.lt k (.inl hk)) hc.size
    · exact Nat.lt_of_lt_of_le (ownsRow_lt h.hl k hk).2 hc.size
    · exact (ownsRow_lt h1 k hk).2
  · rcases hnew k hk2 with e | e
    · exact h.dis k hk e
    · have := (ownsRow_lt h.hl k hk).2; omega
/-- a page more -/
theorem DocAt.addL {S : Nat → Prop} {w wr w1 : World} {rq r F TT : Nat} {Fr : Nat → Bool} {U : Nat → Nat} {svl svt v' : Value} {c : Array Value} {L : List (Int × Nat)} {T : List Nat} {v : Int × Nat} (h : DocAt S w rq r F Fr U svl svt L T wr)
    (h1 : w1.ownsRow w.heap.size 67 3 v' (L.length + 1) (pgCs L ++ pgC v)) (hg : (wr.alloc (.cells c TT)).grownBy w1 svl.ownBlock) (hat : v'.ownBlock = svl.ownBlock ∨ v'.ownBlock = some (wr.alloc (.cells c TT)).heap.size) :
    DocAt S w rq r F Fr U v' svt (L ++ [v]) T w1 := by
  have hc : Chg (fun k => svl.ownBlock = some k) wr w1 := ((Chg.refl _ wr).alloc _).grown hg (fun k hk => .inl hk)
  have hz : (wr.alloc (.cells c TT)).heap.size = wr.heap.size + 1 := by simp
  have hnew : ∀ k, v'.ownBlock = some k → svl.ownBlock = some k ∨ wr.heap.size ≤ k := fun k hk => by
    rcases hat with e | e
    · exact .inl (e ▸ hk)
    · rw [e, hz] at hk
      cases hk
      exact .inr (by omega)
  refine ⟨?_, ownsRow_chg h.ht hc (fun k hk e => h.dis k e hk), h.q.beside hc (fun k hk => .inr (.inl hk)) (fun k hk => ?_) (fun k hk => ?_), h.chg.trans' hc (fun k hk => .inr (ownsRow_lt h.hl k hk).1), fun k hk hk2 => ?_⟩
  · rw [List.length_append, pgCs_next]; exact h1
  · rcases hk with hk | hk | hk
    · exact .inl (.inl hk)
    · exact (hnew k hk).imp (fun e => .inr (.inl e)) id
    · exact .inl (.inr (.inr hk))
  · rcases hk with hk | hk | hk
    · exact Nat.lt_of_lt_of_le (h.q.lt k (.inl hk)) hc.size
    · exact (ownsRow_lt h1 k hk).2
    · exact Nat.lt_of_lt_of_le (ownsRow_lt h.ht k hk).2 hc.size
  · rcases hnew k hk with e | e
    · exact h.dis k e hk2
    · have := (ownsRow_lt h.ht k hk2).2; omega
/-- the cells of a struct that was just made -/
theorem cells3_new (W : World) (a b c : Value) (T : TypeId) : ∀ j u, [a, b, c][j]? = some u → (W.alloc (.cells #[a, b, c] T)).cell? ((⟨W.heap.size, 0, none⟩ : Addr).add j) = some u := by
  intro j u h
  have hB := Blk.new W #[a, b, c] T
  rw [show (⟨W.heap.size, 0, none⟩ : Addr).add j = ⟨W.heap.size, j, none⟩ from by simp [Addr.add]; exact fun e => e.symm]
  rw [hB.cell j]
  simpa using h
end Go.Proofs.YtijooajhjcfneaaGreat

namespace Go.Proofs.YtijooajhjcfneaaGreat
open Go.RowKit

theorem Tryz.infoIntQ : (Tryz.prog.info? 3).map (fun i => (i.zero, i.size, i.bytes)) = some (some (.int .i64 0), 1, 8) := by kernel_rfl
theorem kid_even {V : Nat → Nat} {t k : Nat} (h : kid V t k = none) : ent V t k % 2 = 0 := kid_none.1 h
theorem step_no {V : Nat → Nat} {t k : Nat} (l first : Nat) (h : kid V t k = none) : pgV (visT V l t first (k + 1)) = pgV (visT V l t first k) ∧ tabT V l t first (k + 1) = tabT V l t first k := by
  rw [visT_succ, tabT_succ, visE_no (kid_even h), tabE_no (kid_even h), List.append_nil, List.append_nil]
  exact ⟨rfl, rfl⟩
theorem step_tab {V : Nat → Nat} {t k g : Nat} (l first : Nat) (h : kid V t k = some g) : pgV (visT V (l + 1) t first (k + 1)) = pgV (visT V (l + 1) t first k) ++ pgV (visT V l g (first * 32 + k) 32) ∧ tabT V (l + 1) t first (k + 1) = tabT V (l + 1) t first k ++ (g :: tabT V l g (first * 32 + k) 32) := by
  obtain ⟨o, d⟩ := kid_some h
  rw [visT_succ, tabT_succ, visE_table o, tabE_table o, d, pgV_append, pgV_append, pgV_neg [] (show (-1 : Int) < 0 by decide)]
  refine ⟨?_, rfl⟩
  rw [show pgV [] = [] from rfl, List.append_nil]
theorem step_page {V : Nat → Nat} {t k g : Nat} (first : Nat) (h : kid V t k = some g) : pgV (visT V 0 t first (k + 1)) = pgV (visT V 0 t first k) ++ [(((first * 32 + k : Nat) : Int), ent V t k)] ∧ ent V t k / 1024 = g := by
  obtain ⟨o, d⟩ := kid_some h
  refine ⟨?_, d⟩
  rw [visT_succ, visE_page o, pgV_append, pgV_pos [] (show (0 : Int) ≤ ((first * 32 + k : Nat) : Int) by omega)]
  rfl
theorem pgV_le (l : List (Int × Nat)) : (pgV l).length ≤ l.length := List.length_filter_le ..
theorem pg_len (V : Nat → Nat) (l t first n : Nat) : (pgV (visT V l t first n)).length ≤ n * 33 ^ l := Nat.le_trans (pgV_le _) (visT_len V l t first n)
theorem tab_len (V : Nat → Nat) (l t first n : Nat) : (tabT V l t first n).length ≤ n * 33 ^ l := by
  have h := len_tabT (V := V) (l := l) (t := t) (first := first) (fun k => len_tabE l t first k) n
  have h2 := visT_len V l t first n
  omega
theorem pows : 33 ^ 2 = 1089 ∧ 33 ^ 1 = 33 ∧ 33 ^ 0 = 1 := by decide
/-- all is well below a table -/
structure PgW (F : Nat) (Fr : Nat → Bool) (U : Nat → Nat) (R : Roles) (root : Nat) : Prop where
  hF : F ≤ 256
  wf : WF F Fr U R
  hr : R root = some (root, 3, 0)
theorem pg_nums (a b c : Nat) (ha : a < 32) (hb : b < 32) (hc : c < 32) :
    (wrap64 (1024 * (a : Int)) = 1024 * (a : Int) ∧ wrap64 (32 * (b : Int)) = 32 * (b : Int) ∧ wrap64 (1024 * (a : Int) + 32 * (b : Int)) = 1024 * (a : Int) + 32 * (b : Int) ∧ wrap64 (1024 * (a : Int) + 32 * (b : Int) + (c : Int)) = ((((0 * 32 + a) * 32 + b) * 32 + c : Nat) : Int)) ∧
    (IntKind.i64.wrap (1024 * (a : Int)) = 1024 * (a : Int) ∧ IntKind.i64.wrap (32 * (b : Int)) = 32 * (b : Int) ∧ IntKind.i64.wrap (1024 * (a : Int) + 32 * (b : Int)) = 1024 * (a : Int) + 32 * (b : Int) ∧ IntKind.i64.wrap (1024 * (a : Int) + 32 * (b : Int) + (c : Int)) = ((((0 * 32 + a) * 32 + b) * 32 + c : Nat) : Int)) := by
  refine ⟨⟨?_, ?_, ?_, ?_⟩, i64_wrap_eq rfl (by omega), i64_wrap_eq rfl (by omega), i64_wrap_eq rfl (by omega), i64_wrap_eq (by omega) (by omega)⟩
  all_goals (unfold wrap64; omega)
theorem rem_32 (y : Nat) : (y : Int).tmod 32 = ((y % 32 : Nat) : Int) ∧ (y : Int) % 32 = ((y % 32 : Nat) : Int) := by
  have h : (y : Int) % 32 = ((y % 32 : Nat) : Int) := by omega
  exact ⟨by rw [Int.tmod_eq_emod_of_nonneg (by omega)]; exact h, h⟩

theorem len_c {Lb X : List (Int × Nat)} {c : Nat} (h1 : Lb.length ≤ 50000) (h2 : X.length ≤ c * 33 ^ 0) (hc : c ≤ 32) : (Lb ++ X).length ≤ 60000 := by
  rw [pows.2.2] at h2
  rw [List.length_append]
  omega
theorem len_km {L : List (Int × Nat)} (h : L.length ≤ 60000) : L.length + 1 ≤ maxLen := by unfold maxLen; omega
theorem len_kb {L : List (Int × Nat)} (h : L.length ≤ 60000) : (L.length + 1) * 24 ≤ 140737488355328 := by omega
set_option maxRecDepth 100000 in
set_option maxHeartbeats 3200000 in
theorem q_pages {S : Nat → Prop} {w : World} {rq r F : Nat} {Fr : Nat → Bool} {U : Nat → Nat} {R : Roles} (h : RQ S w rq r F Fr U) (hF : F ≤ 256) (hW : WF F Fr U R) (root : Nat) (hr : R root = some (root, 3, 0)) :
    Calls Tryz.prog 21 #[.pointer (some ⟨rq, 0, none⟩), .int .i64 root] w fun e w' => ∃ svl svt, e = .returned (.tuple #[svl, svt]) ∧ DocAt S w rq r F Fr U svl svt (pgV (visT U 2 root 0 32)) (tabT U 2 root 0 32) w' := by
  obtain ⟨i0, hi, hz0, hz1, hz2⟩ := info_parts Tryz.infoIntQ
  obtain ⟨j0, hj, hy0, hy1, hy2⟩ := info_parts Tryz.infoPage
  have HW := Lib.hid (PgW.mk hF hW hr)
  have H0 := Lib.hid (DocAt.start h)
  have KN := Lib.hid (fun (W : World) (S' : Nat → Prop) (t k : Nat) (H : RQ S' W rq r F Fr U) (ht : t < F) (hk : k < 32) => q_next H hF t k ht hk)
  have KL := Lib.hid (fun (W : World) (S' : Nat → Prop) (t k : Nat) (H : RQ S' W rq r F Fr U) (ht : t < F) (hk : k < 32) => q_load H hF t k ht hk)
  clear h hF hW hr
  go_enter Tryz.func21, Tryz.ntmps21
  go_wp2_with fail
  go_loopw [6, 7, 8] (fun xl xt i wr => ∃ svl svt k, svl = xl ∧ svt = xt ∧ k ≤ 32 ∧ i = .int .i64 (k : Nat) ∧ Hid (DocAt S w rq r F Fr U svl svt (pgV (visT U 2 root 0 k)) (tabT U 2 root 0 k) wr)) (fun _ _ i _ => 32 - (intOf i).toNat)
  case atStart => exact ⟨_, _, 0, rfl, rfl, Nat.zero_le _, rfl, H0⟩
  case round =>
    obtain ⟨svl, svt, a, rfl, rfl, ha, rfl, HA⟩ := hrel
    by_cases hlt : a < 32
    · have k0 : decide ((a : Int) < (32 : Int)) = true := decide_eq_true (by omega)
      have KN1 := KN.out _ _ root a HA.out.q (HW.out.wf.lt _ _ HW.out.hr) hlt
      rcases opt_cases (kid U root a) with hk | ⟨one, hk⟩
      · rw [hk, show nxV none = -1 from rfl] at KN1
        obtain ⟨e1, e2⟩ := step_no 2 0 hk
        have E1 := Lib.hid (And.intro e1 e2)
        have KN1 := Lib.hid KN1
        clear e1 e2 hk
        go_wp2_with fail
        refine KN1.out.mono ?_
        rintro e w3 ⟨rfl, m3, c3⟩
        have M3 := Lib.hid (HA.out.stepped ⟨rfl, m3, c3⟩ (v := .int .u64 0) (e := .returned (.int .u64 0))); clear m3 c3
        go_wp2_with fail
        go_roundw
        case rel => exact ⟨_, _, a + 1, rfl, rfl, by omega, by go_num, by rw [E1.out.1, E1.out.2]; exact M3⟩
        case measure => simp [intOf]; omega
      · obtain ⟨hone, _⟩ := HW.out.wf.kid HW.out.hr hlt hk
        have hoF := HW.out.wf.lt _ _ hone
        obtain ⟨e1, e2⟩ := step_tab 1 0 hk
        rw [hk, show nxV (some one) = (one : Int) from rfl] at KN1
        obtain ⟨A, hA⟩ : ∃ A, A = 0 * 32 + a := ⟨_, rfl⟩
        rw [← hA] at e1 e2 hone
        have hla := pg_len U 2 root 0 a
        have hta := tab_len U 2 root 0 a
        obtain ⟨La, hLa⟩ : ∃ La, La = pgV (visT U 2 root 0 a) := ⟨_, rfl⟩
        obtain ⟨Ta, hTa⟩ : ∃ Ta, Ta = tabT U 2 root 0 a := ⟨_, rfl⟩
        rw [← hLa, ← hTa] at HA
        rw [← hLa] at hla e1
        rw [← hTa] at hta e2
        have hla2 : La.length ≤ 40000 := by rw [pows.1] at hla; omega
        have hta2 : Ta.length ≤ 40000 := by rw [pows.1] at hta; omega
        have km : Ta.length + 1 ≤ maxLen := by unfold maxLen; omega
        have kb : (Ta.length + 1) * 8 ≤ 140737488355328 := by omega
        have dn : decide ((one : Int) < (0 : Int)) = false := decide_eq_false (by omega)
        have E1 := Lib.hid (And.intro e1 e2)
        have HONE := Lib.hid (And.intro hone hoF)
        have HAA := Lib.hid hA
        have KN1 := Lib.hid KN1
        have HLN := Lib.hid (And.intro hla2 hta2)
        clear e1 e2 hk hone hoF hA hLa hTa hla hta hla2 hta2
        go_wp2_with fail
        refine KN1.out.mono ?_
        rintro e w3 ⟨rfl, m3, c3⟩
        have M3 := Lib.hid (HA.out.stepped ⟨rfl, m3, c3⟩ (v := .int .u64 0) (e := .returned (.int .u64 0))); clear m3 c3
        have hU9 := M3.out.ht
        have hszz : w.heap.size ≤ w3.heap.size := M3.out.chg.size
        go_wp2_with (at_builtin; refine wpList_append_own_at _ rfl (.tmp 24) (.tmp 26) 63 rfl w.heap.size 3 i0 (.int .i64 0) 1 8 Tryz.underlying63 hi hz0 hz1 hz2 rfl (by decide) _ _ _ rfl (hU9.alloc _) ⟨w3.heap.size, 0, none⟩ 1 1 [.int .i64 (one : Nat)] rfl rfl (cell_one_new _ _ _) (by simp [Value.oneCell']) km kb (by simp; omega) ?_; intro v' w6 hown1 hgrow1 _ hat1; have HX := Lib.hid (M3.out.addT hown1 hgrow1 hat1); clear hown1 hgrow1 hat1)
        clear hU9 hszz km kb M3 HA KN1 dn
        have H1 := Lib.hid (show DocAt S w rq r F Fr U svl v' (La ++ pgV (visT U 1 one A 0)) ((Ta ++ [one]) ++ tabT U 1 one A 0) w6 from by
          rw [visT_zero, tabT_zero, show pgV [] = [] from rfl, List.append_nil, List.append_nil]; exact HX.out)
        clear HX
        go_loopw [6, 7, 10] (fun xl xt i wr => ∃ svl svt k, svl = xl ∧ svt = xt ∧ k ≤ 32 ∧ i = .int .i64 (k : Nat) ∧ Hid (DocAt S w rq r F Fr U svl svt (La ++ pgV (visT U 1 one A k)) ((Ta ++ [one]) ++ tabT U 1 one A k) wr)) (fun _ _ i _ => 32 - (intOf i).toNat)
        case atStart => exact ⟨_, _, 0, rfl, rfl, Nat.zero_le _, rfl, H1⟩
        case round =>
          obtain ⟨svl, svt, b, rfl, rfl, hb, rfl, HA⟩ := hrel
          by_cases hlt2 : b < 32
          · have k1 : decide ((b : Int) < (32 : Int)) = true := decide_eq_true (by omega)
            have KN1 := KN.out _ _ one b HA.out.q HONE.out.2 hlt2
            rcases opt_cases (kid U one b) with hk | ⟨two, hk⟩
            · rw [hk, show nxV none = -1 from rfl] at KN1
              obtain ⟨e1, e2⟩ := step_no 1 A hk
              have E2 := Lib.hid (And.intro e1 e2)
              have KN1 := Lib.hid KN1
              clear e1 e2 hk
              go_wp2_with fail
              refine KN1.out.mono ?_
              rintro e w3 ⟨rfl, m3, c3⟩
              have M3 := Lib.hid (HA.out.stepped ⟨rfl, m3, c3⟩ (v := .int .u64 0) (e := .returned (.int .u64 0))); clear m3 c3
              go_wp2_with fail
              go_roundw
              case rel => exact ⟨_, _, b + 1, rfl, rfl, by omega, by go_num, by rw [E2.out.1, E2.out.2]; exact M3⟩
              case measure => simp [intOf]; omega
            · obtain ⟨htwo, _⟩ := HW.out.wf.kid HONE.out.1 hlt2 hk
              have htF := HW.out.wf.lt _ _ htwo
              obtain ⟨e1, e2⟩ := step_tab 0 A hk
              rw [hk, show nxV (some two) = (two : Int) from rfl] at KN1
              obtain ⟨B, hB⟩ : ∃ B, B = A * 32 + b := ⟨_, rfl⟩
              rw [← hB] at e1 e2 htwo
              have hlb := pg_len U 1 one A b
              have htb := tab_len U 1 one A b
              have hlb2 : (La ++ pgV (visT U 1 one A b)).length ≤ 50000 := by rw [pows.2.1] at hlb; rw [List.length_append]; have := HLN.out.1; omega
              have htb2 : ((Ta ++ [one]) ++ tabT U 1 one A b).length ≤ 50000 := by rw [pows.2.1] at htb; rw [List.length_append, List.length_append, List.length_singleton]; have := HLN.out.2; omega
              obtain ⟨Lb, hLb⟩ : ∃ Lb, Lb = La ++ pgV (visT U 1 one A b) := ⟨_, rfl⟩
              obtain ⟨Tb, hTb⟩ : ∃ Tb, Tb = (Ta ++ [one]) ++ tabT U 1 one A b := ⟨_, rfl⟩
              rw [← hLb, ← hTb] at HA
              rw [← hLb] at hlb2
              rw [← hTb] at htb2
              have E2 := Lib.hid (show La ++ pgV (visT U 1 one A (b + 1)) = Lb ++ pgV (visT U 0 two B 32) ∧ (Ta ++ [one]) ++ tabT U 1 one A (b + 1) = Tb ++ [two] from by
                rw [e1, e2, hLb, hTb]
                refine ⟨by rw [List.append_assoc], ?_⟩
                have hz : tabT U 0 two B 32 = [] := List.eq_nil_of_length_eq_zero (by
                  have : ∀ n, tabT U 0 two B n = [] := fun n => by
                    induction n with
                    | zero => rfl
                    | succ n ih => rw [tabT_succ, ih, tabE_page]; rfl
                  rw [this]; rfl)
                rw [hz, ← List.append_assoc])
              have km : Tb.length + 1 ≤ maxLen := by unfold maxLen; omega
              have kb : (Tb.length + 1) * 8 ≤ 140737488355328 := by omega
              have dn : decide ((two : Int) < (0 : Int)) = false := decide_eq_false (by omega)
              have HTWO := Lib.hid (And.intro htwo htF)
              have HBB := Lib.hid hB
              have KN1 := Lib.hid KN1
              have HLN2 := Lib.hid hlb2
              clear e1 e2 hk htwo htF hB hLb hTb hlb htb hlb2 htb2
              go_wp2_with fail
              refine KN1.out.mono ?_
              rintro e w3 ⟨rfl, m3, c3⟩
              have M3 := Lib.hid (HA.out.stepped ⟨rfl, m3, c3⟩ (v := .int .u64 0) (e := .returned (.int .u64 0))); clear m3 c3
              have hU9 := M3.out.ht
              have hszz : w.heap.size ≤ w3.heap.size := M3.out.chg.size
              go_wp2_with (at_builtin; refine wpList_append_own_at _ rfl (.tmp 38) (.tmp 40) 63 rfl w.heap.size 3 i0 (.int .i64 0) 1 8 Tryz.underlying63 hi hz0 hz1 hz2 rfl (by decide) _ _ _ rfl (hU9.alloc _) ⟨w3.heap.size, 0, none⟩ 1 1 [.int .i64 (two : Nat)] rfl rfl (cell_one_new _ _ _) (by simp [Value.oneCell']) km kb (by simp; omega) ?_; intro v' w6 hown1 hgrow1 _ hat1; have HX := Lib.hid (M3.out.addT hown1 hgrow1 hat1); clear hown1 hgrow1 hat1)
              clear hU9 hszz km kb M3 HA KN1 dn
              have H2 := Lib.hid (show DocAt S w rq r F Fr U svl v' (Lb ++ pgV (visT U 0 two B 0)) (Tb ++ [two]) w6 from by
                rw [visT_zero, show pgV [] = [] from rfl, List.append_nil]; exact HX.out)
              clear HX
              go_loopw [6, 12] (fun xl i wr => ∃ svl k, svl = xl ∧ k ≤ 32 ∧ i = .int .i64 (k : Nat) ∧ Hid (DocAt S w rq r F Fr U svl v' (Lb ++ pgV (visT U 0 two B k)) (Tb ++ [two]) wr)) (fun _ i _ => 32 - (intOf i).toNat)
              case atStart => exact ⟨_, 0, rfl, Nat.zero_le _, rfl, H2⟩
              case round =>
                obtain ⟨svl, c, rfl, hc, rfl, HA⟩ := hrel
                by_cases hlt3 : c < 32
                · have k2 : decide ((c : Int) < (32 : Int)) = true := decide_eq_true (by omega)
                  have KN1 := KN.out _ _ two c HA.out.q HTWO.out.2 hlt3
                  rcases opt_cases (kid U two c) with hk | ⟨g, hk⟩
                  · rw [hk, show nxV none = -1 from rfl] at KN1
                    obtain ⟨e1, _⟩ := step_no 0 B hk
                    have E3 := Lib.hid e1
                    have KN1 := Lib.hid KN1
                    clear e1 hk
                    go_wp2_with fail
                    refine KN1.out.mono ?_
                    rintro e w3 ⟨rfl, m3, c3⟩
                    have M3 := Lib.hid (HA.out.stepped ⟨rfl, m3, c3⟩ (v := .int .u64 0) (e := .returned (.int .u64 0))); clear m3 c3
                    go_wp2_with fail
                    go_roundw
                    case rel => exact ⟨_, c + 1, rfl, by omega, by go_num, by rw [E3.out]; exact M3⟩
                    case measure => simp [intOf]; omega
                  · obtain ⟨e1, e2⟩ := step_page B hk
                    rw [hk, show nxV (some g) = (g : Int) from rfl] at KN1
                    have hl4 := len_c (HLN2.out) (pg_len U 0 two B c) hc
                    have km := len_km hl4
                    have kb := len_kb hl4
                    have dn : decide ((0 : Int) ≤ (g : Int)) = true := decide_eq_true (Int.natCast_nonneg g)
                    have KLL := fun W H => KL.out W (fun k => S k ∨ svl.ownBlock = some k ∨ v'.ownBlock = some k) two c H HTWO.out.2 hlt3
                    obtain ⟨y, hy⟩ : ∃ y, y = ent U two c := ⟨_, rfl⟩
                    rw [← hy] at KLL e1 e2
                    obtain ⟨q1, q2⟩ := rem_32 y
                    obtain ⟨bt, hbt⟩ : ∃ bt, bt = y % 32 := ⟨_, rfl⟩
                    rw [← hbt] at q1 q2
                    obtain ⟨N, hN⟩ : ∃ N, N = B * 32 + c := ⟨_, rfl⟩
                    obtain ⟨⟨u1, u2, u3, u4⟩, ⟨u5, u6, u7, u8⟩⟩ := pg_nums a b c hlt hlt2 hlt3
                    rw [← HAA.out, ← HBB.out, ← hN] at u4 u8
                    rw [← hN] at e1
                    obtain ⟨Lc, hLc⟩ : ∃ Lc, Lc = Lb ++ pgV (visT U 0 two B c) := ⟨_, rfl⟩
                    rw [← hLc] at HA hl4 km kb
                    have E3 := Lib.hid (show Lb ++ pgV (visT U 0 two B (c + 1)) = Lc ++ [((N : Int), y)] from by rw [e1, hLc, List.append_assoc])
                    have EC := Lib.hid (show pgC ((N : Int), y) = [.int .i64 (N : Int), .int .u64 (bt : Int), .int .i64 (g : Int)] from by unfold pgC; rw [hbt, e2])
                    have KN1 := Lib.hid KN1; have KLL := Lib.hid KLL
                    clear e1 e2 hk hy hbt hN hl4 hLc
                    go_wp2_with fail
                    refine KN1.out.mono ?_
                    rintro e w3 ⟨rfl, m3, c3⟩
                    have M3 := Lib.hid (HA.out.stepped ⟨rfl, m3, c3⟩ (v := .int .u64 0) (e := .returned (.int .u64 0))); clear m3 c3
                    go_wp2_with fail
                    refine (KLL.out w3 M3.out.q).mono ?_
                    rintro e w4 ⟨rfl, m3, c3⟩
                    have M4 := Lib.hid (M3.out.stepped ⟨rfl, m3, c3⟩ (v := .int .u64 0) (e := .returned (.int .u64 0))); clear m3 c3
                    have hU9 := M4.out.hl
                    have hszz : w.heap.size ≤ w4.heap.size := M4.out.chg.size
                    go_wp2_with (at_builtin; refine wpList_append_own_at _ rfl (.tmp 52) (.tmp 67) 62 rfl w.heap.size 67 j0 (.agg #[.int .i64 0, .int .u64 0, .int .i64 0]) 3 24 Tryz.underlying62 hj hy0 hy1 hy2 rfl (by decide) _ _ _ rfl (hU9.alloc _) ⟨w4.heap.size, 0, none⟩ 1 1 [.int .i64 (N : Int), .int .u64 (bt : Int), .int .i64 (g : Int)] rfl rfl (cells3_new _ _ _ _ _) (by simp [Value.oneCell']) km kb (by simp; omega) ?_; intro v2 w6 hown1 hgrow1 _ hat1; rw [← EC.out] at hown1; have HX := Lib.hid (M4.out.addL hown1 hgrow1 hat1); clear hown1 hgrow1 hat1)
                    clear hU9 hszz km kb dn q1 q2 u1 u2 u3 u4 u5 u6 u7 u8
                    go_roundw
                    case rel => exact ⟨_, c + 1, rfl, by omega, by go_num, by rw [E3.out]; exact HX⟩
                    case measure => simp [intOf]; omega
                · obtain rfl : c = 32 := by omega
                  have k2 : decide (((32 : Nat) : Int) < 32) = false := by decide
                  clear hlt3
                  go_wp2_with fail
                  go_roundw
                  case rel => exact ⟨_, _, b + 1, rfl, rfl, by omega, by go_num, by rw [E2.out.1, E2.out.2]; exact HA⟩
                  case measure => simp [intOf]; omega
          · obtain rfl : b = 32 := by omega
            have k1 : decide (((32 : Nat) : Int) < 32) = false := by decide
            clear hlt2
            go_wp2_with fail
            go_roundw
            case rel => exact ⟨_, _, a + 1, rfl, rfl, by omega, by go_num, by rw [E1.out.1, E1.out.2, List.append_cons]; exact HA⟩
            case measure => simp [intOf]; omega
    · obtain rfl : a = 32 := by omega
      have k0 : decide (((32 : Nat) : Int) < 32) = false := by decide
      clear hlt
      go_wp2_with fail
      go_ret2
      exact ⟨_, _, rfl, HA.out⟩
end Go.Proofs.YtijooajhjcfneaaGreat

namespace Go.Proofs.YtijooajhjcfneaaGreat
open Go.RowKit

theorem perm4 {α : Type} (a b c d : List α) : ((a ++ b) ++ (c ++ d)).Perm ((a ++ c) ++ (b ++ d)) := by
  rw [List.append_assoc, List.append_assoc]
  refine List.Perm.append_left a ?_
  rw [← List.append_assoc, ← List.append_assoc]
  exact List.Perm.append_right d List.perm_append_comm
theorem perm_T {V : Nat → Nat} {l t first : Nat} (h : ∀ k, (frs (pgV (visE V l t first k)) ++ tabE V l t first k).Perm (frs (visE V l t first k))) : ∀ n, (frs (pgV (visT V l t first n)) ++ tabT V l t first n).Perm (frs (visT V l t first n)) := by
  intro n
  induction n with
  | zero => exact List.Perm.refl _
  | succ n ih =>
    rw [visT_succ, tabT_succ, pgV_append, frs_append, frs_append]
    exact (perm4 _ _ _ _).trans (ih.append (h n))
theorem perm_E {V : Nat → Nat} : ∀ l t first k, (frs (pgV (visE V l t first k)) ++ tabE V l t first k).Perm (frs (visE V l t first k)) := by
  intro l
  induction l with
  | zero =>
    intro t first k
    rw [tabE_page, List.append_nil]
    rcases odd_cases V t k with e | e
    · rw [visE_no e]; exact List.Perm.refl _
    · rw [visE_page e, pgV_pos [] (show (0 : Int) ≤ ((first * 32 + k : Nat) : Int) by omega)]
      exact List.Perm.refl _
  | succ l ih =>
    intro t first k
    rcases odd_cases V t k with e | e
    · rw [tabE_no e, visE_no e]; exact List.Perm.refl _
    · have h := perm_T (V := V) (l := l) (t := ent V t k / 1024) (first := first * 32 + k) (fun j => ih _ _ j) 32
      rw [tabE_table e, visE_table e, pgV_append, frs_append, frs_append, pgV_neg [] (show (-1 : Int) < 0 by decide), show frs (pgV []) = [] from rfl, List.append_nil]
      refine (List.perm_middle).trans ?_
      refine (List.Perm.cons _ h).trans ?_
      exact (List.perm_append_singleton _ _).symm
/-- what the document gives back: the same, each once -/
def docD (V : Nat → Nat) (root : Nat) : List Nat := frs (pgV (visT V 2 root 0 32)) ++ tabT V 2 root 0 32
theorem docD_perm (V : Nat → Nat) (root : Nat) : (docD V root).Perm (frs (visT V 2 root 0 32)) := perm_T (fun k => perm_E 2 root 0 k) 32
theorem giveF_congr {Fr : Nat → Bool} {D D' : List Nat} (h : ∀ x, x ∈ D ↔ x ∈ D') : giveF Fr D = giveF Fr D' := by
  funext f
  unfold giveF
  congr 1
  apply Bool.eq_iff_iff.2
  rw [List.contains_iff_mem, List.contains_iff_mem]
  exact h f
theorem giveV_congr {V : Nat → Nat} {D D' : List Nat} (h : ∀ x, x ∈ D ↔ x ∈ D') : giveV V D = giveV V D' := by
  funext a
  have e : D.contains (a / 256) = D'.contains (a / 256) := by
    apply Bool.eq_iff_iff.2
    rw [List.contains_iff_mem, List.contains_iff_mem]
    exact h _
  unfold giveV
  rw [e]
theorem docD_off {F : Nat} {s : PS} {R : Roles} (hW : WFS F s R) {root : Nat} (hr : R root = some (root, 3, 0)) : giveF s.Fr (docD s.V root ++ [root]) = (s.off R root).Fr ∧ giveV s.V (docD s.V root ++ [root]) = (s.off R root).V := by
  have hm : ∀ x, x ∈ docD s.V root ++ [root] ↔ x ∈ frs (visT s.V 2 root 0 32) ++ [root] := fun x => by
    rw [List.mem_append, List.mem_append, (docD_perm s.V root).mem_iff]
  obtain ⟨a, b⟩ := off_give hW hr
  exact ⟨(giveF_congr hm).trans a, (giveV_congr hm).trans b⟩
/-- each frame that is given back is there to be given back -/
structure GiveOk (F : Nat) (Fr : Nat → Bool) (D : List Nat) : Prop where
  nodup : D.Nodup
  lt : ∀ f ∈ D, f < F
  gone : ∀ f ∈ D, Fr f = false
theorem docD_ok {F : Nat} {s : PS} {R : Roles} (hW : WFS F s R) {root : Nat} (hr : R root = some (root, 3, 0)) : GiveOk F s.Fr (docD s.V root ++ [root]) := by
  obtain ⟨n1, n2⟩ := vis_nodup hW hr
  have hp := docD_perm s.V root
  have hroot : s.Fr root = false := by
    cases e : s.Fr root with
    | false => rfl
    | true => have := ((hW.free _).1 e).2; rw [hr] at this; cases this
  have hin : ∀ f ∈ docD s.V root, f < F ∧ s.Fr f = false := fun f hf => by
    obtain ⟨v, hv, e⟩ := mem_frs.1 (hp.mem_iff.1 hf)
    obtain ⟨_, h2, h3⟩ := vis_frame hW hr hv
    rw [e] at h2 h3
    exact ⟨h2, h3⟩
  refine ⟨List.nodup_append.2 ⟨hp.nodup_iff.2 n1, by simp, fun a ha b hb e => ?_⟩, fun f hf => ?_, fun f hf => ?_⟩
  · rw [List.mem_singleton.1 hb] at e
    subst e
    exact n2 (hp.mem_iff.1 ha)
  · rcases List.mem_append.1 hf with hf | hf
    · exact (hin f hf).1
    · rw [List.mem_singleton.1 hf]; exact hW.lt _ _ hr
  · rcases List.mem_append.1 hf with hf | hf
    · exact (hin f hf).2
    · rw [List.mem_singleton.1 hf]; exact hroot
/-- the next one -/
theorem give_next {F : Nat} {Fr : Nat → Bool} {D A B : List Nat} {f : Nat} (g : GiveOk F Fr D) (h : D = A ++ f :: B) : f < F ∧ giveF Fr A f = false := by
  have hm : f ∈ D := by rw [h]; simp
  refine ⟨g.lt f hm, ?_⟩
  have hn := g.nodup
  rw [h] at hn
  have : f ∉ A := fun ha => (List.nodup_append.1 hn).2.2 f ha f List.mem_cons_self rfl
  unfold giveF
  rw [g.gone f hm]
  simpa using this
theorem pgCs_get : ∀ (L : List (Int × Nat)) (i : Nat) (hi : i < L.length) (j : Nat), j < 3 → (pgCs L)[i * 3 + j]? = (pgC L[i])[j]?
  | v :: L, 0, _, j, hj => by
    have h : pgCs (v :: L) = pgC v ++ pgCs L := by unfold pgCs; rw [List.flatMap_cons]
    rw [h, Nat.zero_mul, Nat.zero_add, List.getElem?_append_left (by show j < 3; exact hj)]
    rfl
  | v :: L, i + 1, hi, j, hj => by
    have h : pgCs (v :: L) = pgC v ++ pgCs L := by unfold pgCs; rw [List.flatMap_cons]
    have hl : (pgC v).length = 3 := rfl
    rw [h, List.getElem?_append_right (by rw [hl]; omega), hl, show (i + 1) * 3 + j - 3 = i * 3 + j from by omega, pgCs_get L i (by simpa using hi) j hj]
    rfl
/-- a row of pages, read -/
theorem PL.any {B : Nat} {w : World} {sv : Value} {L : List (Int × Nat)} (h : w.ownsRow B 67 3 sv L.length (pgCs L)) : ∃ ao cap, sv = .slice ao L.length cap ∧ ∀ i (hi : i < L.length), ∃ g, ao = some ⟨g, 0, none⟩ ∧ w.cell? ⟨g, i * 3, none⟩ = some (.int .i64 L[i].1) ∧ w.cell? ⟨g, i * 3 + 1, none⟩ = some (.int .u64 ((L[i].2 % 32 : Nat) : Int)) ∧ w.cell? ⟨g, i * 3 + 2, none⟩ = some (.int .i64 ((L[i].2 / 1024 : Nat) : Int)) := by
  obtain ⟨hl, h | ⟨g, cap, cur, rfl, hb, hg, h1, h2, h3, h4⟩⟩ := h
  · exact ⟨none, 0, by rw [h.1, h.2], fun i hi => by omega⟩
  · refine ⟨_, cap, rfl, fun i hi => ⟨g, rfl, ?_⟩⟩
    have hB : Blk w g cur 67 := hg
    have key : ∀ j, j < 3 → w.cell? ⟨g, i * 3 + j, none⟩ = (pgC L[i])[j]? := fun j hj => by
      rw [hB.cell]
      have e : (cur.toList.take (L.length * 3))[i * 3 + j]? = (pgCs L)[i * 3 + j]? := by rw [h4]
      rw [List.getElem?_take_of_lt (by omega), pgCs_get L i hi j hj] at e
      simpa using e
    exact ⟨key 0 (by omega), key 1 (by omega), key 2 (by omega)⟩
/-- a row of tables, read -/
theorem TL.any {B : Nat} {w : World} {sv : Value} {T : List Nat} (h : w.ownsRow B 3 1 sv T.length (T.map fun x => Value.int .i64 (x : Nat))) : ∃ ao cap, sv = .slice ao T.length cap ∧ ∀ i (hi : i < T.length), ∃ g, ao = some ⟨g, 0, none⟩ ∧ w.cell? ⟨g, i, none⟩ = some (.int .i64 (T[i] : Nat)) := by
  obtain ⟨hl, h | ⟨g, cap, cur, rfl, hb, hg, h1, h2, h3, h4⟩⟩ := h
  · exact ⟨none, 0, by rw [h.1, h.2], fun i hi => by omega⟩
  · refine ⟨_, cap, rfl, fun i hi => ⟨g, rfl, ?_⟩⟩
    have hB : Blk w g cur 3 := hg
    rw [hB.cell i]
    have e : (cur.toList.take (T.length * 1))[i]? = (T.map fun x => Value.int .i64 (x : Nat))[i]? := by rw [h4]
    rw [List.getElem?_take_of_lt (by omega), List.getElem?_map, List.getElem?_eq_getElem hi] at e
    simpa using e
theorem take_next {α : Type} (L : List α) (k : Nat) (hk : k < L.length) : L.take (k + 1) = L.take k ++ [L[k]] := by
  rw [List.take_add_one, List.getElem?_eq_getElem hk]
  rfl
theorem take_split {α : Type} (L : List α) (k : Nat) (hk : k < L.length) : L = L.take k ++ L[k] :: L.drop (k + 1) := by
  rw [← List.drop_eq_getElem_cons hk, List.take_append_drop]
end Go.Proofs.YtijooajhjcfneaaGreat

namespace Go.Proofs.YtijooajhjcfneaaGreat
open Go.RowKit

theorem frs_take (L : List (Int × Nat)) (k : Nat) (hk : k < L.length) : frs (L.take (k + 1)) = frs (L.take k) ++ [L[k].2 / 1024] := by rw [take_next L k hk, frs_append]; rfl
theorem frs_split (L : List (Int × Nat)) (k : Nat) (hk : k < L.length) : frs L = frs (L.take k) ++ (L[k].2 / 1024) :: frs (L.drop (k + 1)) := by
  have h := congrArg frs (take_split L k hk)
  rw [frs_append] at h
  exact h
theorem give_nil (Fr : Nat → Bool) (V : Nat → Nat) : giveF Fr [] = Fr ∧ giveV V [] = V := ⟨giveF_nil Fr, giveV_nil V⟩
theorem succ_wrap (k : Nat) (h : k ≤ 100000) : wrap64 ((k : Int) + 1) = ((k + 1 : Nat) : Int) ∧ IntKind.i64.wrap ((k : Int) + 1) = ((k + 1 : Nat) : Int) := by
  refine ⟨?_, i64_wrap_eq (by omega) (by omega)⟩
  unfold wrap64; omega
end Go.Proofs.YtijooajhjcfneaaGreat
