/-
  What the calls of the statement ProgBytes answer.
-/
import Derived.Test.YtijooajhjcfneaaGreatQPgBytes
import Derived.Test.YtijooajhjcfneaaGreatQPgQLoad2
import Derived.Test.YtijooajhjcfneaaGreatQPgShown
namespace Go.Proofs.YtijooajhjcfneaaGreat
open Go.RowKit

theorem vis_ent {F : Nat} {Fr : Nat → Bool} {V : Nat → Nat} {R : Roles} (h : WF F Fr V R) (root : Nat) : ∀ l t first k, R t = some (root, l + 1, first) → k < 32 → ∀ v ∈ visE V l t first k, ∀ i : Nat, v.1 = (i : Int) → ∃ t', R t' = some (root, 1, i / 32) ∧ v.2 = ent V t' (i % 32) := by
  intro l
  induction l with
  | zero =>
    intro t first k ht hk v hv i hi
    rcases odd_cases V t k with e | e
    · rw [visE_no e] at hv; cases hv
    · rw [visE_page e] at hv
      have hv' := List.mem_singleton.1 hv
      rw [hv'] at hi ⊢
      have hi' : first * 32 + k = i := by
        have : ((first * 32 + k : Nat) : Int) = (i : Int) := hi
        omega
      subst hi'
      exact ⟨t, by rw [show (first * 32 + k) / 32 = first by omega]; exact ht, by rw [show (first * 32 + k) % 32 = k by omega]⟩
  | succ l ih =>
    intro t first k ht hk v hv i hi
    rcases odd_cases V t k with e | e
    · rw [visE_no e] at hv; cases hv
    · rw [visE_table e] at hv
      have hc := (h.kid ht hk (kid_of_odd e)).1
      rcases List.mem_append.1 hv with hv | hv
      · obtain ⟨j, hj, hv⟩ := mem_visT.1 hv
        exact ih _ _ j hc hj v hv i hi
      · have hv' := List.mem_singleton.1 hv
        rw [hv'] at hi
        have : (-1 : Int) = (i : Int) := hi
        omega
theorem pages_bits {F root : Nat} {s : PS} {R : Roles} {C : Nat → Nat → Nat} {B : Nat → Nat} (hW : WFS F s R) (hr : R root = some (root, 3, 0)) (h : LC root s R C B) (hB : ∀ i, B i = 27 ∨ B i = 23) (v : Int × Nat) (hv : v ∈ pgV (visT s.V 2 root 0 32)) : v.2 % 32 = 27 ∨ v.2 % 32 = 23 := by
  unfold pgV at hv
  obtain ⟨hv, hp⟩ := List.mem_filter.1 hv
  obtain ⟨k, hk, hv⟩ := mem_visT.1 hv
  rcases vis_page hW root 2 root 0 k hr hk v hv with ⟨e, _⟩ | ⟨i, e1, e2, _⟩
  · rw [e] at hp; exact absurd hp (by decide)
  · obtain ⟨t', a1, a2⟩ := vis_ent hW root 2 root 0 k hr hk v hv i e1
    obtain ⟨_, t, b1, b2⟩ := h _ i e2
    obtain rfl := hW.inj _ _ _ a1 b1
    rw [← a2] at b2
    rcases hB i with e | e
    · left; rw [e] at b2; omega
    · right; rw [e] at b2; omega
theorem pg_bits {w : World} {B : Nat} {sv : Value} {L : List (Int × Nat)} (h : w.ownsRow B 67 3 sv L.length (pgCs L)) : ∃ a cap, sv = .slice a L.length cap ∧ ∀ i (hi : i < L.length), ∃ g, a = some ⟨g, 0, none⟩ ∧ w.cell? ⟨g, i * 3 + 1, none⟩ = some (.int .u64 ((L[i].2 % 32 : Nat) : Int)) := by
  obtain ⟨hl, ⟨h, h0⟩ | ⟨g, cap, cur, rfl, hb, hg, h1, h2, h3, h4⟩⟩ := h
  · exact ⟨none, 0, by rw [h, h0], fun i hi => by omega⟩
  · refine ⟨some ⟨g, 0, none⟩, cap, rfl, fun i hi => ⟨g, rfl, ?_⟩⟩
    have hB : Blk w g cur 67 := hg
    have key : ∀ (L : List (Int × Nat)) (i j : Nat) (hi : i < L.length) (hj : j < 3), (pgCs L)[i * 3 + j]? = (pgC L[i])[j]? := by
      intro L
      induction L with
      | nil => intro i j hi; cases hi
      | cons v L ih =>
        intro i j hi hj
        have e : pgCs (v :: L) = pgC v ++ pgCs L := by unfold pgCs; rw [List.flatMap_cons]
        have e3 : (pgC v).length = 3 := rfl
        rw [e]
        cases i with
        | zero =>
          rw [List.getElem?_append_left (by omega)]
          rw [show 0 * 3 + j = j from by omega]
          rfl
        | succ i =>
          rw [List.getElem?_append_right (by omega), show (i + 1) * 3 + j - (pgC v).length = i * 3 + j from by omega]
          exact ih i j (by simpa using hi) hj
    have e : ∀ j, j < 3 → cur[i * 3 + j]? = (pgC L[i])[j]? := fun j hj => by
      rw [← key L i j hi hj, ← h4, List.getElem?_take_of_lt (by omega)]
      simp
    rw [hB.cell]
    exact e 1 (by omega)
theorem CP_text (x : Prg) (a b m j : Nat) (ha : a = pagesN x.text.size) (hj : j < x.text.size) : CP x a m ((256 + j) / 256) ((256 + j) % 256) = byt x.text j ∧ 1 ≤ (256 + j) / 256 ∧ (256 + j) / 256 < 1 + a := by
  have : (256 + j) / 256 < 1 + a := by rw [ha]; unfold pagesN; omega
  refine ⟨?_, by omega, this⟩
  unfold CP
  rw [if_pos this, show 256 * ((256 + j) / 256 - 1) + (256 + j) % 256 = j by omega]
theorem CP_data (x : Prg) (a b m z j : Nat) (hz : z = x.data.size + x.bss.toNat) (hb : b = pagesN z) (hm : m = a + b) (hj : j < z) : CP x a m ((256 * (1 + a) + j) / 256) ((256 * (1 + a) + j) % 256) = byt x.data j ∧ 1 ≤ (256 * (1 + a) + j) / 256 ∧ (256 * (1 + a) + j) / 256 < 1 + m := by
  have h1 : (256 * (1 + a) + j) / 256 = 1 + a + j / 256 := by omega
  have h2 : (256 * (1 + a) + j) % 256 = j % 256 := by omega
  have h3 : j / 256 < b := by rw [hb]; unfold pagesN; omega
  rw [h1, h2]
  refine ⟨?_, by omega, by omega⟩
  unfold CP
  rw [if_neg (by omega), if_pos (by omega), show 256 * (1 + a + j / 256 - 1 - a) + j % 256 = j by omega]
theorem shQ_yes (m i : Nat) (h : 1 ≤ i ∧ i < 1 + m) : shQ m 0 i = true := by
  show (decide (1 ≤ i ∧ i < 1 + m) || _) = true
  rw [decide_eq_true h]; rfl
def v64B : PS := ⟨frAll 0 64, fun _ => 0⟩
theorem v64B_left : v64B.left 64 = 64 := by decide +kernel
theorem v64B_top : v64B.top 64 = 0 := by decide +kernel
/-- what the calls of ProgBytes answer for a program -/
structure BtP (x : Prg) (a a2 a3 : Nat) (s4 s5 : PS) (Z : ByteArray) (L : List (Int × Nat)) : Prop where
  load : ∀ S W q p, Pl S W q p 64 0 (frAll 0 64) (fun _ => 0) → Calls Tryz.prog 7 #[.pointer (some ⟨q, 0, none⟩), x.val] W (StepF S W q p 64 0 s4.Fr s4.V (.tuple #[.int .i64 0, .agg (hartC (256 + x.entry.toNat)), .int .u64 ((256 * (1 + a) + x.data.size + x.bss.toNat : Nat) : Int), .int .i64 0]))
  may : ∀ W, Calls Tryz.prog 18 #[x.val] W fun r w' => r = .returned (.bool true) ∧ Chg (fun _ => False) W w'
  in1 : ∀ S W q p, Pl S W q p 64 0 s4.Fr s4.V → Calls Tryz.prog 19 #[.pointer (some ⟨q, 0, none⟩), .int .i64 0, .int .u64 256, .int .i64 x.text.size] W (StepF S W q p 64 0 s4.Fr s4.V (.tuple #[.string x.text, .int .i64 0]))
  in2 : ∀ S W q p, Pl S W q p 64 0 s4.Fr s4.V → Calls Tryz.prog 19 #[.pointer (some ⟨q, 0, none⟩), .int .i64 0, .int .u64 (a2 : Nat), .int .i64 x.data.size] W (StepF S W q p 64 0 s4.Fr s4.V (.tuple #[.string x.data, .int .i64 0]))
  in3 : ∀ S W q p, Pl S W q p 64 0 s4.Fr s4.V → Calls Tryz.prog 19 #[.pointer (some ⟨q, 0, none⟩), .int .i64 0, .int .u64 (a3 : Nat), .int .i64 (x.bss.toNat : Nat)] W (StepF S W q p 64 0 s4.Fr s4.V (.tuple #[.string Z, .int .i64 0]))
  out1 : ∀ S W q p, Pl S W q p 64 0 s4.Fr s4.V → Calls Tryz.prog 20 #[.pointer (some ⟨q, 0, none⟩), .int .i64 0, .int .u64 256, .string ⟨#[120]⟩] W (StepF S W q p 64 0 s4.Fr s4.V (.int .i64 3))
  out2 : ∀ S W q p, Pl S W q p 64 0 s4.Fr s4.V → Calls Tryz.prog 20 #[.pointer (some ⟨q, 0, none⟩), .int .i64 0, .int .u64 16383, .string ⟨#[120]⟩] W (StepF S W q p 64 0 s5.Fr s5.V (.int .i64 0))
  ql : ∀ S W rq r, RQ S W rq r 64 (frAll 0 64) (fun _ => 0) → Calls Tryz.prog 14 #[.pointer (some ⟨rq, 0, none⟩), x.val] W (StepQ S W rq r 64 s4.Fr s4.V (.tuple #[.int .i64 0, .agg (hartC (256 + x.entry.toNat)), .int .u64 ((256 * (1 + a) + x.data.size + x.bss.toNat : Nat) : Int), .int .i64 0]))
  pages : ∀ S W rq r, RQ S W rq r 64 s4.Fr s4.V → Calls Tryz.prog 21 #[.pointer (some ⟨rq, 0, none⟩), .int .i64 0] W fun e w' => ∃ svl svt, e = .returned (.tuple #[svl, svt]) ∧ w'.ownsRow W.heap.size 67 3 svl L.length (pgCs L) ∧ Chg (fun k => ¬ S k) W w'
  bits : ∀ i (hi : i < L.length), L[i].2 % 32 = 27 ∨ L[i].2 % 32 = 23
  len : L.length ≤ 40000
  ha8 : a ≤ 8
  h2 : a2 = 256 * (1 + a)
  h3 : a3 = a2 + x.data.size
  hZ : Z = zerosB x.bss.toNat
theorem BtP.of {x : Prg} (hsm : x.Small) (hx : x.may = true) : ∃ a a2 a3 s4 s5 Z L, BtP x a a2 a3 s4 s5 Z L := by
  obtain ⟨m1, m2, m3, m4, m5, m6, m7, m8, m9, m10⟩ := may_nums hx
  obtain ⟨a, ha⟩ : ∃ a, a = pagesN x.text.size := ⟨_, rfl⟩
  obtain ⟨z, hz⟩ : ∃ z, z = x.data.size + x.bss.toNat := ⟨_, rfl⟩
  obtain ⟨b, hb'⟩ : ∃ b, b = pagesN z := ⟨_, rfl⟩
  have hb : b = pagesN (x.data.size + x.bss.toNat) := by rw [hb', hz]
  obtain ⟨m, hm⟩ : ∃ m, m = a + b := ⟨_, rfl⟩
  have hm28 : m ≤ 28 := by rw [hm, ha, hb]; unfold pagesN; omega
  have ha8 : a ≤ 8 := by rw [ha]; unfold pagesN; omega
  have ha1 : 1 ≤ a := by rw [ha]; unfold pagesN; omega
  have hF : (64 : Nat) ≤ 256 := by decide
  have g0 : SG 64 v64B (fun _ => none) := good_start 64 _
  obtain ⟨R, f, h0, lc⟩ := load_lc (F := 64) (s := v64B) hF g0 hx ha hb hm (by rw [v64B_left]; omega)
  rw [v64B_top] at f h0 lc
  obtain ⟨s4, hs4⟩ : ∃ s4, loadS 64 v64B x a b = s4 := ⟨_, rfl⟩
  rw [hs4] at f lc
  have hB : ∀ i, BP a i = 27 ∨ BP a i = 23 := fun i => by unfold BP; split; exact .inl rfl; exact .inr rfl
  have hW := f.g.wf
  have one : (⟨#[120]⟩ : ByteArray).size = 1 := rfl
  have o1 : adrs s4.V 64 0 256 2 1 = none := by
    obtain ⟨e, _⟩ := lc_at hW f.r lc 256 (by decide) (by rw [h0]; exact shQ_yes m _ (by omega)) 2 (hB _) (.inr rfl)
    have e27 : BP a (256 / 256) = 27 := by unfold BP; rw [if_pos (by omega)]
    rw [if_neg (by rw [e27]; decide)] at e
    have e' : tbAt s4.V 64 0 ((256 + 0) % 18446744073709551616) 2 = none := e
    show ((adrs s4.V 64 0 256 2 0).bind fun l => (tbAt s4.V 64 0 ((256 + 0) % 18446744073709551616) 2).map fun a => l ++ [a]) = none
    rw [e']
    rfl
  obtain ⟨ys, o2⟩ : ∃ ys, adrs s4.V 64 0 16383 2 1 = some ys := by
    obtain ⟨e, f', e2, _⟩ := lc_at hW f.r lc 16383 (by decide) (by rw [h0]; show (_ || decide (56 ≤ 63 ∧ 63 < 64)) = true; rw [decide_eq_true (show 56 ≤ 63 ∧ 63 < 64 by omega)]; simp) 2 (hB _) (.inr rfl)
    have e23 : BP a (16383 / 256) = 23 := by unfold BP; rw [if_neg (by omega)]
    rw [if_pos (.inr e23), e2] at e
    have e' : tbAt s4.V 64 0 ((16383 + 0) % 18446744073709551616) 2 = some (f' * 256 + 16383 % 256) := e
    refine ⟨[] ++ [f' * 256 + 16383 % 256], ?_⟩
    show ((adrs s4.V 64 0 16383 2 0).bind fun l => (tbAt s4.V 64 0 ((16383 + 0) % 18446744073709551616) 2).map fun a => l ++ [a]) = _
    rw [e']
    rfl
  have inn : ∀ (at_ n : Nat) (str : ByteArray), str.size = n → n ≤ 4096 → at_ + n ≤ 65536 → (∀ j, j < n → CP x a m ((at_ + j) / 256) ((at_ + j) % 256) = byt str j ∧ 1 ≤ (at_ + j) / 256 ∧ (at_ + j) / 256 < 1 + m) → ∀ S W q p, Pl S W q p 64 0 s4.Fr s4.V → Calls Tryz.prog 19 #[.pointer (some ⟨q, 0, none⟩), .int .i64 0, .int .u64 (at_ : Nat), .int .i64 (n : Nat)] W (StepF S W q p 64 0 s4.Fr s4.V (.tuple #[.string str, .int .i64 0])) := by
    intro at_ n str hn hn2 hat hc S W q p H
    have k := sp_in H hF hW 0 f.r at_ n hn2
    obtain ⟨xs, e1, e2⟩ := in_list hW f.r lc hB at_ n (fun j hj => ⟨by omega, by rw [h0]; exact shQ_yes m _ (hc j hj).2⟩)
    rw [e1] at k
    have e3 : inR s4.V (some xs) = .tuple #[.string str, .int .i64 0] := by
      show Value.tuple #[.string ⟨(inS s4.V xs).toArray⟩, .int .i64 0] = _
      have e4 : inS s4.V xs = (List.range str.size).map fun j => UInt8.ofNat (byt str j) := by
        rw [e2, hn]
        apply List.map_congr_left
        intro j hj
        rw [(hc j (List.mem_range.1 hj)).1]
      rw [e4, bytes_list]
    rw [e3] at k
    exact k
  refine ⟨a, 256 * (1 + a), 256 * (1 + a) + x.data.size, s4, ⟨s4.Fr, outV s4.V ys ⟨#[120]⟩ 1⟩, zerosB x.bss.toNat, pgV (visT s4.V 2 0 0 32), ?_, ?_, ?_, ?_, ?_, ?_, ?_, ?_, ?_, ?_, ?_, ha8, rfl, rfl, rfl⟩
  · intro S W q p H
    have k := p_load_yes (s := v64B) (R := fun _ => none) (x := x) (m := m) hF H g0 hsm hx ha hb hm (by rw [v64B_left]; omega) hs4
    rw [v64B_top] at k
    exact k.mono fun e w' ⟨h1, h2⟩ => ⟨h1, h2.pl, h2.chg⟩
  · intro W
    have k := q_may W x hsm
    rw [hx] at k
    exact k
  · exact inn 256 x.text.size x.text rfl (by omega) (by omega) (fun j hj => by
      obtain ⟨c1, c2, c3⟩ := CP_text x a b m j ha hj
      exact ⟨c1, c2, by omega⟩)
  · exact inn (256 * (1 + a)) x.data.size x.data rfl (by omega) (by omega) (fun j hj => CP_data x a b m z j hz hb' hm (by omega))
  · exact inn (256 * (1 + a) + x.data.size) x.bss.toNat (zerosB x.bss.toNat) (zerosB_size _) (by omega) (by omega) (fun j hj => by
      obtain ⟨c1, c2, c3⟩ := CP_data x a b m z (x.data.size + j) hz hb' hm (by omega)
      rw [← Nat.add_assoc] at c1 c2 c3
      refine ⟨?_, c2, c3⟩
      rw [c1, byt_beyond _ _ (by omega)]
      have := dzB_at ⟨#[]⟩ x.bss.toNat j
      have e : dzB ⟨#[]⟩ x.bss.toNat = zerosB x.bss.toNat := by unfold dzB; apply ByteArray.ext; simp
      rw [e] at this
      rw [this, byt_beyond _ _ (Nat.zero_le _)])
  · intro S W q p H
    exact sp_out_no H hF hW 0 f.r 256 ⟨#[120]⟩ (by rw [one]; omega) (by rw [one]; exact o1)
  · intro S W q p H
    exact sp_out_yes H hF hW 0 f.r 16383 ⟨#[120]⟩ (by rw [one]; omega) ys (by rw [one]; exact o2)
  · intro S W rq r H
    have k := q_load12 (s := v64B) (R := fun _ => none) (x := x) (m := m) hF H g0 hsm hx ha hb hm (by rw [v64B_left]; omega) hs4
    rw [v64B_top] at k
    exact k
  · intro S W rq r H
    exact (q_pages H hF hW 0 f.r).mono fun e w' ⟨svl, svt, h1, h2⟩ => ⟨svl, svt, h1, h2.hl, h2.chg⟩
  · intro i hi
    exact pages_bits hW f.r lc hB _ (List.getElem_mem hi)
  · have h1 := visT_len s4.V 2 0 0 32
    have h2 : (pgV (visT s4.V 2 0 0 32)).length ≤ (visT s4.V 2 0 0 32).length := List.length_filter_le _ _
    have h3 : 32 * 33 ^ 2 = 34848 := by decide
    rw [h3] at h1
    omega
end Go.Proofs.YtijooajhjcfneaaGreat
