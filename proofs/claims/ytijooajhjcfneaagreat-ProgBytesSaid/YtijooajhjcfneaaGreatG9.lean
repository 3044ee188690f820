/-
  Several texts in one: SpOut3, SpPages, SpPages2, SpArg, SpCount, SpLaw6.
-/
import Derived.Test.YtijooajhjcfneaaGreatG8
import Derived.Maps.AppendAt
namespace Go.Proofs.YtijooajhjcfneaaGreat
open Go.RowKit

theorem may_lt {F e acc off a : Nat} (hoff : off < 256) (h : (if tbMay F e acc = true then some (e / 1024 * 256 + off) else none) = some a) : a < F * 256 := by
  by_cases hm : tbMay F e acc = true
  · rw [if_pos hm] at h
    cases h
    have h2 : e / 1024 < F := by unfold tbMay at hm; exact (of_decide_eq_true hm).2.2.2
    omega
  · rw [if_neg hm] at h
    cases h
theorem tbAt_lt {V : Nat → Nat} {F root at_ acc a : Nat} (h : tbAt V F root at_ acc = some a) : a < F * 256 := by
  unfold tbAt at h
  by_cases c : 8388608 ≤ at_
  · rw [if_pos c] at h; cases h
  · rw [if_neg c] at h
    rcases opt_cases (tbLeaf V F root at_) with hl | ⟨x, hl⟩
    · rw [wk_none hl] at h; cases h
    · rw [wk_some hl] at h
      exact may_lt (Nat.mod_lt _ (by decide)) h
theorem adrs_lt {V : Nat → Nat} {F root at_ acc : Nat} : ∀ n l, adrs V F root at_ acc n = some l → ∀ x ∈ l, x < F * 256 := by
  intro n
  induction n with
  | zero => intro l h x hx; cases h; cases hx
  | succ n ih =>
    intro l h x hx
    have h' : (adrs V F root at_ acc n).bind (fun l => (tbAt V F root ((at_ + n) % 18446744073709551616) acc).map fun a => l ++ [a]) = some l := h
    rw [Option.bind_eq_some_iff] at h'
    obtain ⟨l1, h1, h2⟩ := h'
    rw [Option.map_eq_some_iff] at h2
    obtain ⟨a, ha, rfl⟩ := h2
    rcases List.mem_append.1 hx with hx | hx
    · exact ih l1 h1 x hx
    · obtain rfl := List.mem_singleton.1 hx
      exact tbAt_lt ha
theorem byt_extract (s : ByteArray) (k : Nat) (hk : k < s.size) : (s.extract k (k + 1)).size = 1 ∧ byt (s.extract k (k + 1)) 0 = byt s k := by
  have h1 : (s.extract k (k + 1)).size = 1 := by simp; omega
  refine ⟨h1, ?_⟩
  unfold byt
  rw [ByteArray.data_extract, Array.toList_extract]
  simp [List.getD, List.extract, List.getElem?_take, List.getElem?_drop]
theorem out_next {F : Nat} (V : Nat → Nat) (ys : List Nat) (s : ByteArray) (k : Nat) (hk : k < s.size) (hy : ys.getD k 0 < F * 256) : ptV F (outV V ys s k) (ys.getD k 0) (s.extract k (k + 1)) = outV V ys s (k + 1) := by
  obtain ⟨h1, h2⟩ := byt_extract s k hk
  unfold ptV
  have e : cdP F (ys.getD k 0) (s.extract k (k + 1)) = 0 := by unfold cdP; rw [h1, if_pos (by omega)]
  rw [if_pos e, h1]
  show _ = putV (outV V ys s k) (ys.getD k 0) 1 (fun _ => byt s k)
  funext b
  unfold putV
  by_cases c : ys.getD k 0 ≤ b ∧ b < ys.getD k 0 + 1
  · rw [if_pos c, if_pos c, show b - ys.getD k 0 = 0 from by omega, h2]
  · rw [if_neg c, if_neg c]
theorem UL.any {B : Nat} {w : World} {sv : Value} {xs : List Nat} (h : UL B w sv xs) : ∃ ao cap, sv = .slice ao xs.length cap ∧ ∀ i (hi : i < xs.length), ∃ g, ao = some ⟨g, 0, none⟩ := by
  by_cases h0 : 0 < xs.length
  · obtain ⟨g, cap, e, _⟩ := h.form h0
    exact ⟨_, cap, e, fun i hi => ⟨g, rfl⟩⟩
  · obtain ⟨hl, h | ⟨g, cap, cur, rfl, hb, hg, h1⟩⟩ := h
    · exact ⟨none, 0, by rw [h.1, h.2], fun i hi => by omega⟩
    · exact ⟨_, cap, rfl, fun i hi => by omega⟩
set_option maxRecDepth 100000 in
set_option maxHeartbeats 1600000 in
theorem sp_out_yes {S : Nat → Prop} {w : World} {q p F : Nat} {Fr : Nat → Bool} {V : Nat → Nat} {R : Roles} (h : Pl S w q p F 0 Fr V) (hF : F ≤ 256) (hW : WF F Fr V R) (root : Nat) (hr : R root = some (root, 3, 0)) (at_ : Nat) (s : ByteArray) (hs : s.size ≤ 4096) (ys : List Nat) (hno : adrs V F root at_ 2 s.size = some ys) :
    Calls Tryz.prog 20 #[.pointer (some ⟨q, 0, none⟩), .int .i64 root, .int .u64 at_, .string s] w (StepF S w q p F 0 Fr (outV V ys s s.size) (.int .i64 0)) := by
  obtain ⟨i0, hi, hz0, hz1, hz2⟩ := info_parts Tryz.infoU64
  have HT := sp_taken h hF root
  rw [hW.taken hr] at HT
  have hrF := hW.lt _ _ hr
  have KW := fun (W : World) (S' : Nat → Prop) (x : Nat) (H : Pl S' W q p F 0 Fr V) => f_wk H hF root x 2
  have KW := fun (W : World) (S' : Nat → Prop) (x : Nat) (H : Pl S' W q p F 0 Fr V) => (wkR_at V F root x 2 hrF (by omega)) ▸ KW W S' x H
  have d1 : decide ((4096 : Int) < (s.size : Int)) = false := decide_eq_false (by omega)
  have d2 : ¬ 4096 < s.size := by omega
  have HF := Lib.hid hF
  have HYS := Lib.hid (adrs_lt s.size ys hno)
  have HT := Lib.hid HT; have KW := Lib.hid KW
  have HN := Lib.hid (And.intro hs hno)
  clear h hF hW hr hrF hs hno
  generalize hsz : s.size = n at *
  have HSZ := Lib.hid hsz
  go_enter Tryz.func20, Tryz.ntmps20
  go_wp2_with fail
  refine HT.out.mono ?_
  rintro e w1 ⟨rfl, m1, c1⟩
  have M1 := Lib.hid (RowAt.nil m1); have C1 := Lib.hid c1; clear m1 c1
  go_wp2_with fail
  go_loopw [9, 26] (fun l i wr => ∃ sv xs j, sv = l ∧ j ≤ n ∧ i = .int .i64 (j : Nat) ∧ Hid (RowAt S w1 w1.heap.size q p F Fr V sv xs wr) ∧ Hid (OutAt V F root at_ j xs)) (fun _ i _ => n - (intOf i).toNat)
  case atStart => exact ⟨_, [], 0, rfl, Nat.zero_le _, rfl, M1, Lib.hid rfl⟩
  case round =>
    obtain ⟨sv, xs, j, rfl, hj, rfl, HA, HO⟩ := hrel
    by_cases hlt : j < n
    · have k0 : decide ((j : Int) < (n : Int)) = true := decide_eq_true (by omega)
      have hn := HN.out.1
      have hlen := adrs_len j xs HO.out
      have km : xs.length + 1 ≤ maxLen := by unfold maxLen; omega
      have kb : (xs.length + 1) * 8 ≤ 140737488355328 := by omega
      obtain ⟨t1, t2⟩ := at_wrap at_ j (by omega)
      obtain ⟨X, hX⟩ : ∃ X, X = (at_ + j) % 18446744073709551616 := ⟨_, rfl⟩
      rw [← hX] at t2
      have KM := Lib.hid (f_mem HA.out.2.1)
      have KW1 := KW.out wr _ X HA.out.2.1
      have HX := Lib.hid hX
      clear hX hn hlen
      rcases opt_cases (tbAt V F root X 2) with ht | ⟨a, ht⟩
      · have h1 := adrs_step_no HO.out (by rw [← HX.out]; exact ht)
        have h2 := adrs_none (j + 1) n (by omega) h1
        rw [HN.out.2] at h2
        cases h2
      · have HST := Lib.hid (show OutAt V F root at_ (j + 1) (xs ++ [a]) from adrs_step HO.out (by rw [← HX.out]; exact ht))
        rw [ht, lfVal_some] at KW1
        have KW1 := Lib.hid KW1
        clear ht
        go_wp2_with fail
        refine KM.out.mono ?_
        rintro e w' ⟨rfl, rfl⟩
        go_wp2_with fail
        refine KW1.out.mono ?_
        rintro e w3 ⟨rfl, m3, c3⟩
        have M3 := Lib.hid (HA.out.stepped ⟨rfl, m3, c3⟩ (v := .int .u64 0) (e := .returned (.int .u64 0))); clear m3 c3
        have hU9 := M3.out.1
        have hszz : w1.heap.size ≤ w3.heap.size := M3.out.2.2.size
        clear t1 t2
        go_wp2_with (at_builtin; refine wpList_append_own_at _ rfl (.tmp 42) (.tmp 44) 119 rfl w1.heap.size 26 i0 (.int .u64 0) 1 8 Tryz.underlying119 hi hz0 hz1 hz2 rfl (by decide) _ _ _ rfl (hU9.alloc _) ⟨w3.heap.size, 0, none⟩ 1 1 [.int .u64 (a : Nat)] rfl rfl (cell_one_new _ _ _) (by simp [Value.oneCell']) km kb (by simp; omega) ?_; intro v' w6 hown1 hgrow1 _ hat1; have HN2 := Lib.hid (M3.out.next (Nat.le_refl _) hown1 hgrow1 hat1); clear hown1 hgrow1 hat1)
        go_roundw
        case rel => exact ⟨_, xs ++ [a], j + 1, rfl, by omega, by go_num, HN2, HST⟩
        case measure => simp [intOf]; omega
    · obtain rfl : j = n := by omega
      have h1 := HN.out.2
      have h2 : adrs V F root at_ 2 j = some xs := HO.out
      rw [h1] at h2
      cases h2
      have k0 : decide ((j : Int) < (j : Int)) = false := decide_eq_false (by omega)
      have HYL := Lib.hid (adrs_len j ys h1)
      have M3 := Lib.hid (show RowAt S w1 w1.heap.size q p F Fr (outV V ys s 0) sv ys wr from HA.out)
      obtain ⟨ao, cap, hsv, hao⟩ := HA.out.1.any
      have HAO := Lib.hid hao
      rw [HYL.out] at hsv
      clear h1 hlt HA HO hao
      subst hsv
      go_wp2_with fail
      go_loopw [49] (fun i wr => ∃ k, k ≤ j ∧ i = .int .i64 (k : Nat) ∧ Hid (RowAt S w1 w1.heap.size q p F Fr (outV V ys s k) (.slice ao j cap) ys wr)) (fun i _ => j - (intOf i).toNat)
      case atStart => exact ⟨0, Nat.zero_le _, rfl, M3⟩
      case round =>
        obtain ⟨k, hk, rfl, HA⟩ := hrel
        by_cases hlt : k < j
        · have z0 : decide ((k : Int) < (j : Int)) = true := decide_eq_true (by omega)
          have hylen := HYL.out
          obtain ⟨g, hg⟩ := HAO.out k (by omega)
          subst hg
          obtain ⟨g2, cap2, e2, hcell⟩ := HA.out.1.form (by omega)
          have eg : g = g2 := congrArg (fun v => match v with | Value.slice (some a) _ _ => a.block | _ => 0) e2
          have hc := hcell k (by omega)
          rw [← eg] at hc
          have hy0 : ys.getD k 0 = ys[k]'(by omega) := by rw [List.getD, List.getElem?_eq_getElem (by omega)]; rfl
          obtain ⟨y, hy⟩ : ∃ y, y = ys.getD k 0 := ⟨_, rfl⟩
          rw [← hy0, ← hy] at hc
          have HY := Lib.hid hy
          have z1 : (0 : Int) ≤ (k : Int) := by omega
          have z2 : (k : Int) < (j : Int) := by omega
          clear hcell hylen hy hy0 eg e2
          go_wp2_with fail
          have hks : k < s.size := by rw [HSZ.out]; exact hlt
          have hyF : ys.getD k 0 < F * 256 := by
            rw [List.getD, List.getElem?_eq_getElem (by rw [HYL.out]; exact hlt)]
            exact HYS.out _ (List.getElem_mem _)
          have NX := Lib.hid (out_next V ys s k hks hyF)
          rw [← HY.out] at hyF NX
          have hF2 := HF.out
          have KP := f_put HA.out.2.1.drew hF2 y (by omega) (s.extract k (k + 1)) (by rw [(byt_extract s k hks).1]; unfold maxLen; omega)
          have KM := Lib.hid (f_mem HA.out.2.1.drew)
          have KP := Lib.hid KP
          have z3 : (k : Int) + 1 ≤ (s.size : Int) := by omega
          have z4 : (k : Int) ≤ (k : Int) + 1 := by omega
          have z5 : wrap64 ((k : Int) + 1) = (k : Int) + 1 := by have := HN.out.1; unfold wrap64; omega
          have z6 : IntKind.i64.wrap ((k : Int) + 1) = (k : Int) + 1 := i64_wrap_eq rfl (by have := HN.out.1; clear z5; omega)
          have hsl : ∀ w : World, (Instr.slice 9 (.string s) (some (.int .i64 (k : Int))) (some (.int .i64 ((k : Int) + 1))) none).run Tryz.prog w = .ok (.string (s.extract k (k + 1))) w := fun w => by
            have h9 := run_slice_string (P := Tryz.prog) w 9 s .i64 .i64 (k : Int) ((k : Int) + 1) Tryz.underlying9 z1 z4 z3
            rw [show ((k : Int) + 1).toNat = k + 1 from by omega, Int.toNat_natCast] at h9
            exact h9
          clear hks hyF hF2
          go_region_held3 (fun w' => True) (first | assumption | exact True.intro | (simp [*]; done))
            (first
              | (go_at_call 41; refine KM.out.mono ?_; rintro e v1 ⟨rfl, rfl⟩)
              | (go_at_call 44; refine KP.out.mono ?_; rintro e v9 ⟨rfl, m9, b9⟩; have M9 := Lib.hid (HA.out.drew.stepped ⟨rfl, m9, b9⟩ (v := .int .u64 0) (e := .returned (.int .u64 0))); clear m9 b9))
          go_wp2_with fail
          go_roundw
          case rel => exact ⟨k + 1, by omega, by go_num, by rw [← NX.out]; exact M9.out⟩
          case measure => simp [intOf]; omega
        · obtain rfl : k = j := by omega
          have z0 : decide ((k : Int) < (k : Int)) = false := decide_eq_false (by omega)
          clear hlt
          go_wp2_with fail
          go_ret
          exact ⟨rfl, HA.out.2.1.weak (fun k a => .inl a), C1.out.trans HA.out.2.2⟩
end Go.Proofs.YtijooajhjcfneaaGreat

namespace Go.Proofs.YtijooajhjcfneaaGreat
open Go.RowKit

theorem visE_len (V : Nat → Nat) : ∀ l t first k, (visE V l t first k).length ≤ 33 ^ l := by
  intro l
  induction l with
  | zero =>
    intro t first k
    rcases odd_cases V t k with e | e
    · rw [visE_no e]; exact Nat.zero_le _
    · rw [visE_page e]; exact Nat.le_refl _
  | succ l ih =>
    intro t first k
    rcases odd_cases V t k with e | e
    · rw [visE_no e]; exact Nat.zero_le _
    · rw [visE_table e, List.length_append]
      have h : ∀ n, (visT V l (ent V t k / 1024) (first * 32 + k) n).length ≤ n * 33 ^ l := by
        intro n
        induction n with
        | zero => exact Nat.zero_le _
        | succ n ihn =>
          rw [visT_succ, List.length_append, Nat.succ_mul]
          exact Nat.add_le_add ihn (ih _ _ _)
      have h2 := h 32
      have h3 : 0 < 33 ^ l := Nat.pow_pos (by decide)
      rw [Nat.pow_succ]
      show _ + 1 ≤ _
      generalize (visT V l (ent V t k / 1024) (first * 32 + k) 32).length = a at *
      generalize 33 ^ l = b at *
      omega
theorem visT_len (V : Nat → Nat) (l t first : Nat) : ∀ n, (visT V l t first n).length ≤ n * 33 ^ l := by
  intro n
  induction n with
  | zero => exact Nat.zero_le _
  | succ n ih =>
    rw [visT_succ, List.length_append, Nat.succ_mul]
    exact Nat.add_le_add ih (visE_len V l t first n)

/-- the pages among the visits -/
def pgs (pre : List (Int × Nat)) : List Int := (pre.map fun v => v.1).filter fun n => decide (0 ≤ n)
theorem pgs_page (pre : List (Int × Nat)) (v : Int × Nat) (h : 0 ≤ v.1) : pgs (pre ++ [v]) = pgs pre ++ [v.1] := by
  unfold pgs
  rw [List.map_append, List.filter_append]
  simp [h]
theorem pgs_table (pre : List (Int × Nat)) (v : Int × Nat) (h : v.1 < 0) : pgs (pre ++ [v]) = pgs pre := by
  unfold pgs
  rw [List.map_append, List.filter_append]
  have : ¬ 0 ≤ v.1 := by omega
  simp [this]
theorem pgs_len (pre : List (Int × Nat)) : (pgs pre).length ≤ pre.length := by
  unfold pgs
  refine Nat.le_trans (List.length_filter_le _ _) ?_
  rw [List.length_map]
  exact Nat.le_refl _

/-- the list that grows lies in the boxed variable c1 -/
def PagesI (q p F : Nat) (Fr : Nat → Bool) (V : Nat → Nat) (B c1 : Nat) (S : Nat → Prop) (pre : List (Int × Nat)) (w : World) : Prop :=
  ∃ sv, Blk w c1 #[sv] 63 ∧ w.ownsRow B 3 1 sv (pgs pre).length ((pgs pre).map (Value.int .i64)) ∧ Pl (fun k => (S k ∨ k = c1) ∨ sv.ownBlock = some k) w q p F 0 Fr V ∧ ¬ S c1 ∧ (∀ k, sv.ownBlock = some k → ¬ S k ∧ k ≠ c1) ∧ B ≤ w.heap.size ∧ B ≤ c1
theorem Tryz.infoIn : (Tryz.prog.info? 3).map (fun i => (i.zero, i.size, i.bytes)) = some (some (.int .i64 0), 1, 8) := by kernel_rfl

theorem own_form {w : World} {B e n : Nat} {v : Value} {xs : List Value} (h : w.ownsRow B e 1 v (n + 1) xs) : ∃ g cap, v = .slice (some ⟨g, 0, none⟩) (n + 1) cap := by
  rcases h.2 with ⟨_, h⟩ | ⟨g, cap, _, h, _⟩
  · omega
  · exact ⟨g, cap, h⟩

set_option maxRecDepth 100000 in
set_option maxHeartbeats 1600000 in
theorem sp_pages1 {S : Nat → Prop} {w : World} {q p F B c1 : Nat} {Fr : Nat → Bool} {V : Nat → Nat} {pre : List (Int × Nat)} (h : PagesI q p F Fr V B c1 S pre w) (v : Int × Nat) (hl : pre.length ≤ 40000) :
    Calls Tryz.prog 53 #[.int .i64 v.1, .int .u64 (v.2 : Nat), .pointer (some ⟨c1, 0, none⟩)] w fun e w' => e = .returned (.tuple #[]) ∧ PagesI q p F Fr V B c1 S (pre ++ [v]) w' ∧ Chg (fun k => ¬ S k) w w' := by
  obtain ⟨i0, hi, hz0, hz1, hz2⟩ := info_parts Tryz.infoIn
  obtain ⟨sv, hb, hu, hp, hs1, hs2, hB, hB1⟩ := h
  have d0 := hb.cellv 0 _ rfl
  have km : (pgs pre).length + 1 ≤ maxLen := by have := pgs_len pre; unfold maxLen; omega
  have kb : ((pgs pre).length + 1) * 8 ≤ 140737488355328 := by have := pgs_len pre; omega
  by_cases hv : 0 ≤ v.1
  · have e0 : decide ((0 : Int) ≤ v.1) = true := decide_eq_true hv
    have HPG := Lib.hid (pgs_page pre v hv)
    have HS := Lib.hid (And.intro hb (And.intro hp (And.intro hs1 (And.intro hs2 (And.intro hB hB1)))))
    have HU := Lib.hid hu
    have NEXT : ∀ v' w1 (c : Array Value) (T : TypeId), w1.ownsRow B 3 1 v' ((pgs pre).length + 1) ((pgs pre).map (Value.int .i64) ++ [.int .i64 v.1]) → (w.alloc (.cells c T)).grownBy w1 sv.ownBlock → (v'.ownBlock = sv.ownBlock ∨ v'.ownBlock = some (w.alloc (.cells c T)).heap.size) →
        w1.cell? ⟨c1, 0, none⟩ = some sv ∧ w1.frozen? ⟨c1, 0, none⟩ = false ∧ PagesI q p F Fr V B c1 S (pre ++ [v]) (w1.setCell ⟨c1, 0, none⟩ v') ∧ Chg (fun k => ¬ S k) w (w1.setCell ⟨c1, 0, none⟩ v') := by
      intro v' w1 c T h1 hg hat
      have hc : Chg (fun k => sv.ownBlock = some k) w w1 := ((Chg.refl _ w).alloc _).grown hg (fun k hk => .inl hk)
      have hb1 : Blk w1 c1 #[sv] _ := hc.blk hb (fun e => (hs2 _ e).2 rfl)
      have hz : (w.alloc (.cells c T)).heap.size = w.heap.size + 1 := by simp
      have hcl := hb.lt
      have hv'1 : ∀ k, v'.ownBlock = some k → sv.ownBlock = some k ∨ k = w.heap.size + 1 := fun k hk => by
        rcases hat with e | e
        · exact .inl (e ▸ hk)
        · rw [e, hz] at hk; cases hk; exact .inr rfl
      have hne : ∀ k, v'.ownBlock = some k → k ≠ c1 := fun k hk => by
        rcases hv'1 k hk with e | e
        · exact (hs2 k e).2
        · omega
      have hcs : Chg (fun k => k = c1 ∨ sv.ownBlock = some k) w (w1.setCell ⟨c1, 0, none⟩ v') := (hc.mono (fun k a => .inr a)).setCell _ _ (.inl (.inl rfl))
      refine ⟨hb1.cellv 0 _ rfl, hb1.free 0, ⟨v', by simpa using hb1.set 0 v', ?_, ?_, hs1, fun k hk => ⟨?_, hne k hk⟩, ?_, hB1⟩, hcs.mono (fun k a b => ?_)⟩
      · rw [HPG.out, List.length_append, List.map_append]
        exact ownsRow_chg (S := fun k => k = c1) h1 ((Chg.refl _ w1).setCell _ _ (.inl rfl)) (fun k hk => hne k hk)
      · refine hp.beside hcs (fun k a => ?_) (fun k a => ?_) (fun k a => ?_)
        · rcases a with a | a
          · exact .inl (.inr a)
          · exact .inr a
        · rcases a with a | a
          · exact .inl (.inl a)
          · rcases hv'1 k a with e | e
            · exact .inl (.inr e)
            · exact .inr (by omega)
        · have hsz := hcs.size
          rcases a with (a | a) | a
          · have := hp.lt k (.inl (.inl a)); omega
          · omega
          · have := (ownsRow_lt h1 k a).2
            simpa using this
      · rcases hv'1 k hk with e | e
        · exact (hs2 k e).1
        · intro hS
          have := hp.lt k (.inl (.inl hS))
          omega
      · have := hcs.size; omega
      · rcases a with a | a
        · subst a; exact hs1 b
        · exact (hs2 k a).1 b
    have NX := Lib.hid NEXT
    clear hb hu hp hs1 hs2 hB hB1 NEXT
    obtain ⟨x, hx⟩ : ∃ x, x = v.1 := ⟨_, rfl⟩
    rw [← hx] at e0 NX hv ⊢
    clear hx
    have hbz : B ≤ w.heap.size := HS.out.2.2.2.2.1
    go_enter Tryz.func53, Tryz.ntmps53
    go_wp2_with (at_builtin; refine wpList_append_own_at _ rfl (.tmp 7) (.tmp 9) 63 rfl B 3 i0 (.int .i64 0) 1 8 Tryz.underlying63 hi hz0 hz1 hz2 rfl (by decide) _ _ _ rfl (HU.out.alloc _) ⟨w.heap.size, 0, none⟩ 1 1 [.int .i64 x] rfl rfl (cell_one_new _ _ _) (by simp [Value.oneCell']) km kb (by simp; omega) ?_; intro v' w6 hown1 hgrow1 _ hat1; obtain ⟨g9, cap9, rfl⟩ := own_form hown1; have hN := NX.out _ _ _ _ hown1 hgrow1 hat1; have g1 := hN.1; have g2 := hN.2.1; have HN := Lib.hid hN.2.2; clear hown1 hgrow1 hat1 hN)
    go_end0
    exact ⟨rfl, HN.out⟩
  · have e0 : decide ((0 : Int) ≤ v.1) = false := decide_eq_false hv
    have FIN := Lib.hid (show PagesI q p F Fr V B c1 S (pre ++ [v]) w from ⟨sv, hb, by rw [pgs_table pre v (by omega)]; exact hu, hp, hs1, hs2, hB, hB1⟩)
    clear hb hu hp hs1 hs2 hB hB1
    go_enter Tryz.func53, Tryz.ntmps53
    go_wp2_with fail
    go_end0
    exact ⟨rfl, FIN.out, Chg.refl _ _⟩
end Go.Proofs.YtijooajhjcfneaaGreat

namespace Go.Proofs.YtijooajhjcfneaaGreat
open Go.RowKit

theorem pages_each {q p F B c1 root : Nat} {Fr : Nat → Bool} {V : Nat → Nat} {R : Roles} (hW : WF F Fr V R) (hr : R root = some (root, 3, 0)) :
    Each1.EachI V R q p F root 53 c1 (visT V 2 root 0 32) (PagesI q p F Fr V B c1) := by
  refine ⟨fun S pre w h => ?_, fun S S' pre w w' h c hs hlt => ?_, fun S pre v post w hall h => ?_, (vis_nodup hW hr).1, fun a b w => by go_simp, fun S pre w h k hk => ?_⟩
  · obtain ⟨sv, hb, hu, hp, hs1, hs2, hB, hB1⟩ := h
    refine ⟨_, _, _, fun k hk => .inl (.inl hk), hp, fun t l i k ht hn hk => rfl, fun w' hp' c => ⟨sv, c.blk hb (fun a => a (.inl (.inr rfl))), ownsRow_chg hu c (fun k hk a => a (.inr hk)), hp', hs1, hs2, Nat.le_trans hB c.size, hB1⟩⟩
  · obtain ⟨sv, hb, hu, hp, hs1, hs2, hB, hB1⟩ := h
    have hcl := hb.lt
    refine ⟨sv, c.blk hb (fun a => a), ownsRow_chg hu c (fun _ _ a => a), hp.beside c (fun _ h => h.elim) (fun k hk => ?_) (fun k hk => ?_), fun a => ?_, fun k hk => ⟨fun a => ?_, (hs2 k hk).2⟩, Nat.le_trans hB c.size, hB1⟩
    · rcases hk with (hk | hk) | hk
      · exact (hs k hk).imp (fun a => .inl (.inl a)) id
      · exact .inl (.inl (.inr hk))
      · exact .inl (.inr hk)
    · rcases hk with (hk | rfl) | hk
      · exact hlt k hk
      · exact Nat.lt_of_lt_of_le hcl c.size
      · exact Nat.lt_of_lt_of_le (ownsRow_lt hu k hk).2 c.size
    · rcases hs _ a with a | a
      · exact hs1 a
      · omega
    · rcases hs k a with a | a
      · exact (hs2 k hk).1 a
      · have := (ownsRow_lt hu k hk).2; omega
  · have hlen : pre.length ≤ 40000 := by
      have h1 := visT_len V 2 root 0 32
      rw [hall, List.length_append] at h1
      have h2 : 32 * 33 ^ 2 = 34848 := by decide
      rw [h2] at h1
      omega
    exact sp_pages1 h v hlen
  · obtain ⟨sv, hb, hu, hp, _⟩ := h
    exact hp.lt k (.inl (.inl hk))

/-- the pages of a space -/
def pagesL (V : Nat → Nat) (root : Nat) : List Int := pgs (visT V 2 root 0 32)
def PagesR (S : Nat → Prop) (w : World) (q p F : Nat) (Fr : Nat → Bool) (V : Nat → Nat) (l : List Int) (e : Ending) (w' : World) : Prop :=
  ∃ sv, e = .returned (.tuple #[sv, .int .i64 0]) ∧ w'.ownsRow w.heap.size 3 1 sv l.length (l.map (Value.int .i64)) ∧ Pl (fun k => S k ∨ sv.ownBlock = some k) w' q p F 0 Fr V ∧ Chg (fun k => ¬ S k) w w'

theorem sp_pages_nil (w : World) (root : Int) :
    Calls Tryz.prog 24 #[.pointer none, .int .i64 root] w fun e w' => e = .returned (.tuple #[.slice none 0 0, .int .i64 1]) ∧ w = w' := by
  have HT := Lib.hid (sp_taken_nil w root)
  go_enter Tryz.func24, Tryz.ntmps24
  go_wp2_with fail
  refine HT.out.mono ?_
  rintro e w1 ⟨rfl, rfl⟩
  go_wp2_with fail
  go_ret2
  exact ⟨rfl, rfl⟩

set_option maxRecDepth 100000 in
set_option maxHeartbeats 1600000 in
theorem sp_pages {S : Nat → Prop} {w : World} {q p F : Nat} {Fr : Nat → Bool} {V : Nat → Nat} {R : Roles} (h : Pl S w q p F 0 Fr V) (hF : F ≤ 256) (hW : WF F Fr V R) (root : Nat) (hr : R root = some (root, 3, 0)) :
    Calls Tryz.prog 24 #[.pointer (some ⟨q, 0, none⟩), .int .i64 root] w (PagesR S w q p F Fr V (pagesL V root)) := by
  have hmf : ∀ (fn : Fn) (first cap : Array Value) (w : World), (Instr.makeFunc fn first cap).run Tryz.prog w = .ok (.func fn first cap) w := fun _ _ _ _ => rfl
  have HT := sp_taken h hF root
  rw [hW.taken hr] at HT
  have KE := fun (B c1 : Nat) (W : World) (I : PagesI q p F Fr V B c1 S [] W) => Lib.hid (Each1.sp_each (pages_each hW hr) hF hW hr rfl (vis_nodup hW hr).2 S W I)
  unfold pagesL
  generalize visT V 2 root 0 32 = vis at *
  have START : ∀ W : World, Pl S W q p F 0 Fr V → PagesI q p F Fr V W.heap.size W.heap.size S [] (W.alloc (.cells #[.slice none 0 0] 63)) := fun W hp => by
    refine ⟨.slice none 0 0, Blk.new W _ _, World.ownsRow_nil _ _ _ _, (hp.boxed ((Chg.refl _ W).alloc _) (by simp)).weak (fun k hk => ?_), fun a => ?_, (fun k hk => by cases hk), by simp, Nat.le_refl _⟩
    · rcases hk with hk | hk
      · exact hk
      · cases hk
    · have := hp.lt _ a; omega
  have HT := Lib.hid HT; have KE := Lib.hid KE; have ST := Lib.hid START
  clear h hF hW hr START
  go_enter Tryz.func24, Tryz.ntmps24
  go_wp2_with fail
  refine HT.out.mono ?_
  rintro e w1 ⟨rfl, m1, c1⟩
  have I1 := Lib.hid (ST.out w1 m1)
  have C1 := Lib.hid c1; clear m1 c1
  go_wp2_with fail
  refine (KE.out _ _ _ I1.out).out.mono ?_
  rintro e w2 ⟨rfl, i2, c2⟩
  obtain ⟨sv, hb, hu, hp, hs1, hs2, hB, hB1⟩ := i2
  have d0 := hb.cellv 0 _ rfl
  have FIN := Lib.hid (show PagesR S w q p F Fr V (pgs vis) (.returned (.tuple #[sv, .int .i64 0])) w2 from ⟨sv, rfl, by
    obtain ⟨hl, h | ⟨g, cap, cur, e1, e2, e3⟩⟩ := hu
    · exact ⟨hl, .inl h⟩
    · exact ⟨hl, .inr ⟨g, cap, cur, e1, Nat.le_trans C1.out.size e2, e3⟩⟩, hp.weak (fun k hk => hk.imp (fun a => .inl a) id), C1.out.trans (((Chg.refl _ w1).alloc _).trans c2)⟩)
  clear hb hu hp hs1 hs2 hB hB1 c2
  go_wp2_with fail
  go_ret2
  exact FIN.out
end Go.Proofs.YtijooajhjcfneaaGreat

namespace Go.Proofs.YtijooajhjcfneaaGreat
open Go.RowKit

theorem sp_out_nil (w : World) (root at_ : Int) (s : ByteArray) :
    Calls Tryz.prog 20 #[.pointer none, .int .i64 root, .int .u64 at_, .string s] w fun e w' => e = .returned (.int .i64 1) ∧ w = w' := by
  have HT := Lib.hid (sp_taken_nil w root)
  go_enter Tryz.func20, Tryz.ntmps20
  go_wp2_with fail
  refine HT.out.mono ?_
  rintro e w1 ⟨rfl, rfl⟩
  go_wp2_with fail
  go_ret
  exact ⟨rfl, rfl⟩
theorem sp_out_free {S : Nat → Prop} {w : World} {q p F : Nat} {Fr : Nat → Bool} {V : Nat → Nat} (h : Pl S w q p F 0 Fr V) (hF : F ≤ 256) (root at_ : Int) (s : ByteArray) (ht : (decide (((0 : Nat) : Int) ≤ root ∧ root < (F : Int)) && !Fr root.toNat) = false) :
    Calls Tryz.prog 20 #[.pointer (some ⟨q, 0, none⟩), .int .i64 root, .int .u64 at_, .string s] w (StepF S w q p F 0 Fr V (.int .i64 1)) := by
  have HT := sp_taken h hF root
  rw [ht] at HT
  have HT := Lib.hid HT
  clear h hF ht
  go_enter Tryz.func20, Tryz.ntmps20
  go_wp2_with fail
  refine HT.out.mono ?_
  rintro e w1 ⟨rfl, m1, c1⟩
  have M1 := Lib.hid (And.intro m1 c1); clear m1 c1
  go_wp2_with fail
  go_ret
  exact ⟨rfl, M1.out⟩
theorem sp_out_long {S : Nat → Prop} {w : World} {q p F : Nat} {Fr : Nat → Bool} {V : Nat → Nat} (h : Pl S w q p F 0 Fr V) (hF : F ≤ 256) (root at_ : Int) (s : ByteArray) (hs : 4096 < s.size) (ht : (decide (((0 : Nat) : Int) ≤ root ∧ root < (F : Int)) && !Fr root.toNat) = true) :
    Calls Tryz.prog 20 #[.pointer (some ⟨q, 0, none⟩), .int .i64 root, .int .u64 at_, .string s] w (StepF S w q p F 0 Fr V (.int .i64 1)) := by
  have HT := sp_taken h hF root
  rw [ht] at HT
  have d1 : decide ((4096 : Int) < (s.size : Int)) = true := decide_eq_true (by omega)
  have HT := Lib.hid HT
  clear h hF ht
  go_enter Tryz.func20, Tryz.ntmps20
  go_wp2_with fail
  refine HT.out.mono ?_
  rintro e w1 ⟨rfl, m1, c1⟩
  have M1 := Lib.hid (And.intro m1 c1); clear m1 c1
  go_wp2_with fail
  go_ret
  exact ⟨rfl, M1.out⟩
theorem sp_free_free {S : Nat → Prop} {w : World} {q p F : Nat} {Fr : Nat → Bool} {V : Nat → Nat} (h : Pl S w q p F 0 Fr V) (hF : F ≤ 256) (root : Int) (ht : (decide (((0 : Nat) : Int) ≤ root ∧ root < (F : Int)) && !Fr root.toNat) = false) :
    Calls Tryz.prog 30 #[.pointer (some ⟨q, 0, none⟩), .int .i64 root] w (StepF S w q p F 0 Fr V (.int .i64 1)) := by
  have hb : Pl S (w.alloc (.cells #[.pointer (some ⟨q, 0, none⟩)] 36)) q p F 0 Fr V := h.nothing ((Chg.refl _ w).alloc _)
  have HT := sp_taken hb hF root
  rw [ht] at HT
  have HC0 := Lib.hid (show Chg (fun k => ¬ S k) w (w.alloc (.cells #[.pointer (some ⟨q, 0, none⟩)] 36)) from (Chg.refl _ _).alloc _)
  have HT := Lib.hid HT
  clear h hb hF ht
  go_enter Tryz.func30, Tryz.ntmps30
  go_wp2_with fail
  refine HT.out.mono ?_
  rintro e w1 ⟨rfl, m1, c1⟩
  have M1 := Lib.hid (And.intro m1 (HC0.out.trans c1)); clear m1 c1
  go_wp2_with fail
  go_ret
  exact ⟨rfl, M1.out⟩
end Go.Proofs.YtijooajhjcfneaaGreat

namespace Go.Proofs.YtijooajhjcfneaaGreat
open Go.RowKit

/-- the number lies in the boxed variable c1 -/
def CountI (q p F : Nat) (Fr : Nat → Bool) (V : Nat → Nat) (c1 : Nat) (S : Nat → Prop) (pre : List (Int × Nat)) (w : World) : Prop :=
  Blk w c1 #[.int .i64 ((1 + pre.length : Nat) : Int)] 3 ∧ Pl (fun k => S k ∨ k = c1) w q p F 0 Fr V ∧ ¬ S c1

end Go.Proofs.YtijooajhjcfneaaGreat

namespace Go.Proofs.YtijooajhjcfneaaGreat
open Go.RowKit

/-- the roles of the frames below n alone -/
def below (R : Roles) (n : Nat) : Roles := fun f => if f < n then R f else none
theorem below_succ_none {R : Roles} {n : Nat} (h : R n = none) : below R (n + 1) = below R n := by
  funext f
  unfold below
  by_cases e : f = n
  · subst e; rw [if_pos (by omega), if_neg (by omega), h]
  · by_cases c : f < n
    · rw [if_pos (by omega), if_pos c]
    · rw [if_neg (by omega), if_neg c]
theorem below_succ_some {R : Roles} {n : Nat} {x : Nat × Nat × Nat} (h : R n = some x) : below R (n + 1) = setR (below R n) n x := by
  funext f
  by_cases e : f = n
  · subst e
    rw [setR_same]
    unfold below
    rw [if_pos (by omega), h]
  · rw [setR_other _ _ e]
    unfold below
    by_cases c : f < n
    · rw [if_pos (by omega), if_pos c]
    · rw [if_neg (by omega), if_neg c]
theorem below_some {R : Roles} {n f : Nat} {x : Nat × Nat × Nat} (h : below R n f = some x) : f < n ∧ R f = some x := by
  unfold below at h
  by_cases c : f < n
  · rw [if_pos c] at h; exact ⟨c, h⟩
  · rw [if_neg c] at h; cases h
theorem cntN_none : cntN (fun _ _ => false) = 0 := by
  have e : ∀ n, cnt (fun _ => false) 0 n = 0 := fun n => cnt_zero_of n (fun _ _ => rfl)
  simp only [cntN, e]
  simp
/-- a space's places are its frames -/
theorem cntN_below {F : Nat} {Fr : Nat → Bool} {V : Nat → Nat} {R : Roles} (h : WF F Fr V R) (r : Nat) : ∀ n, n ≤ F → cntN (hasB F (below R n) r) = cnt (ownR R r) 0 n
  | 0, _ => by
    have e : hasB F (below R 0) r = fun _ _ => false := by
      funext l i
      cases hh : hasB F (below R 0) r l i with
      | false => rfl
      | true =>
        obtain ⟨f, hf⟩ := (hasB_iff (fun f x hx => by have := (below_some hx).1; omega) _ _ _).1 hh
        have := (below_some hf).1
        omega
    rw [e, cntN_none]
    rfl
  | n + 1, hn => by
    have ih := cntN_below h r n (by omega)
    have hlt : ∀ f x, below R n f = some x → f < F := fun f x hx => by have := (below_some hx).1; omega
    have hno : below R n n = none := by unfold below; rw [if_neg (by omega)]
    rw [cnt, Nat.zero_add]
    rcases (show R n = none ∨ ∃ x, R n = some x by cases R n with | none => exact .inl rfl | some x => exact .inr ⟨x, rfl⟩) with e | ⟨⟨r', l, i⟩, e⟩
    · rw [below_succ_none e, ih]
      have : ownR R r n = false := by unfold ownR; rw [e]
      rw [this]; rfl
    · rw [below_succ_some e]
      by_cases er : r' = r
      · subst er
        have hs := hasB_set hlt (show n < F by omega) hno r' l i
        have hb := h.bound e
        have hl := h.level e
        have hf : hasB F (below R n) r' l i = false := by
          cases hh : hasB F (below R n) r' l i with
          | false => rfl
          | true =>
            obtain ⟨g, hg⟩ := (hasB_iff hlt _ _ _).1 hh
            obtain ⟨h1, h2⟩ := below_some hg
            have := h.inj _ _ _ h2 e
            omega
        have c := cntN_set (hasB F (below R n) r') l i hf (by omega) (by omega) (by omega) (by omega) (by omega)
        have c2 : cntN (hasB F (setR (below R n) n (r', l, i)) r') = cntN (hasB F (below R n) r') + 1 := (congrArg cntN hs).trans c
        rw [c2, ih]
        have : ownR R r' n = true := ownR_iff.2 ⟨l, i, e⟩
        rw [this]; rfl
      · rw [hasB_set_other hlt (show n < F by omega) hno r' r l i (Ne.symm er), ih]
        have : ownR R r n = false := by unfold ownR; rw [e]; simpa using er
        rw [this]; rfl
theorem cntN_own {F : Nat} {Fr : Nat → Bool} {V : Nat → Nat} {R : Roles} (h : WF F Fr V R) (r : Nat) : cntN (hasB F R r) = cnt (ownR R r) 0 F := by
  rw [← cntN_below h r F (Nat.le_refl _)]
  have e : below R F = R := by
    funext f
    unfold below
    by_cases c : f < F
    · rw [if_pos c]
    · rw [if_neg c]
      cases hh : R f with
      | none => rfl
      | some x => exact absurd (h.lt _ _ hh) c
  rw [e]
theorem cnt_nodup {F : Nat} : ∀ (l : List Nat) (P : Nat → Bool), l.Nodup → (∀ x, x ∈ l ↔ P x = true) → (∀ x, x ∈ l → x < F) → l.length = cnt P 0 F
  | [], P, _, hm, _ => by
    rw [cnt_zero_of F (fun i _ => by
      cases e : P (0 + i) with
      | false => rfl
      | true => have := (hm _).2 e; cases this)]
    rfl
  | x :: l, P, hn, hm, hlt => by
    have hn' := List.nodup_cons.1 hn
    have hx := hlt x List.mem_cons_self
    have hP : P x = true := (hm x).1 List.mem_cons_self
    have c := cnt_setF P x false 0 F (Nat.zero_le _) (by omega)
    rw [hP] at c
    have ih := cnt_nodup (F := F) l (setF P x false) hn'.2 (fun y => by
      unfold setF
      by_cases e : y = x
      · subst e
        rw [if_pos rfl]
        simp [hn'.1]
      · rw [if_neg e, ← hm y]
        simp [e]) (fun y hy => hlt y (List.mem_cons_of_mem _ hy))
    rw [List.length_cons, ih]
    simpa using c
/-- as many visits as frames, but for the root -/
theorem vis_count {F : Nat} {Fr : Nat → Bool} {V : Nat → Nat} {R : Roles} (h : WF F Fr V R) {root : Nat} (hr : R root = some (root, 3, 0)) : (visT V 2 root 0 32).length + 1 = cntN (hasB F R root) := by
  rw [cntN_own h root]
  obtain ⟨h1, h2⟩ := vis_nodup h hr
  have hmem := fun f => vis_own h hr f
  have k := cnt_nodup (F := F) (root :: frs (visT V 2 root 0 32)) (ownR R root) (List.nodup_cons.2 ⟨h2, h1⟩) (fun x => by rw [← hmem x, List.mem_cons]; exact or_comm) (fun x hx => by
    have : ownR R root x = true := (hmem x).1 (by rw [List.mem_cons] at hx; exact hx.symm)
    obtain ⟨l, i, e⟩ := ownR_iff.1 this
    exact h.lt _ _ e)
  rw [List.length_cons, List.length_map] at k
  exact k
/-- a space less: its frames are free -/
theorem off_left {F : Nat} {s : PS} {R : Roles} (h : WFS F s R) (r : Nat) : (s.off R r).left F = s.left F + cnt (ownR R r) 0 F := by
  have key : ∀ n, cnt (fun f => s.Fr f || ownR R r f) 0 n = cnt s.Fr 0 n + cnt (ownR R r) 0 n := by
    intro n
    induction n with
    | zero => rfl
    | succ n ih =>
      rw [cnt, cnt, cnt, ih, Nat.zero_add]
      cases e : s.Fr n with
      | false => simp; omega
      | true =>
        have := ((h.free n).1 e).2
        have : ownR R r n = false := by unfold ownR; rw [this]
        rw [this]; simp; omega
  exact key F
theorem off_cntN {F : Nat} {s : PS} {R : Roles} (h : WFS F s R) (r : Nat) : (s.off R r).left F = s.left F + cntN (hasB F R r) := by rw [cntN_own h r]; exact off_left h r

/-- what a visit is -/
theorem vis_page {F : Nat} {Fr : Nat → Bool} {V : Nat → Nat} {R : Roles} (h : WF F Fr V R) (root : Nat) : ∀ l t first k, R t = some (root, l + 1, first) → k < 32 → ∀ v ∈ visE V l t first k, (v.1 = -1 ∧ ∃ l' i, R (v.2 / 1024) = some (root, l' + 1, i)) ∨ ∃ i : Nat, v.1 = (i : Int) ∧ R (v.2 / 1024) = some (root, 0, i) ∧ v.2 % 1024 < 32 ∧ v.2 % 2 = 1 := by
  intro l
  induction l with
  | zero =>
    intro t first k ht hk v hv
    rcases odd_cases V t k with e | e
    · rw [visE_no e] at hv; cases hv
    · rw [visE_page e] at hv
      have hv' := List.mem_singleton.1 hv
      rw [hv']
      obtain ⟨h1, bits, h2, h3, h4, h5⟩ := h.kid ht hk (kid_of_odd e)
      refine .inr ⟨first * 32 + k, rfl, h1, ?_, e⟩
      generalize ent V t k / 1024 = g at *
      rw [h2]
      omega
  | succ l ih =>
    intro t first k ht hk v hv
    rcases odd_cases V t k with e | e
    · rw [visE_no e] at hv; cases hv
    · rw [visE_table e] at hv
      have hc := (h.kid ht hk (kid_of_odd e)).1
      rcases List.mem_append.1 hv with hv | hv
      · obtain ⟨j, hj, hv⟩ := mem_visT.1 hv
        exact ih _ _ j hc hj v hv
      · have hv' := List.mem_singleton.1 hv
        rw [hv']
        exact .inl ⟨rfl, l, _, hc⟩
theorem vis_page_all {F : Nat} {Fr : Nat → Bool} {V : Nat → Nat} {R : Roles} (h : WF F Fr V R) {root : Nat} (hr : R root = some (root, 3, 0)) {f i : Nat} (hf : R f = some (root, 0, i)) : ∃ v ∈ visT V 2 root 0 32, v.1 = (i : Int) := by
  rcases (vis_own h hr f).2 (ownR_iff.2 ⟨0, i, hf⟩) with hm | rfl
  · obtain ⟨v, hv, hv2⟩ := mem_frs.1 hm
    obtain ⟨k, hk, hv1⟩ := mem_visT.1 hv
    rcases vis_page h root 2 root 0 k hr hk v hv1 with ⟨_, l', i', e⟩ | ⟨i', e1, e2, _⟩
    · rw [hv2, hf] at e; cases e
    · rw [hv2, hf] at e2
      cases e2
      exact ⟨v, hv, e1⟩
  · rw [hr] at hf; cases hf
end Go.Proofs.YtijooajhjcfneaaGreat
