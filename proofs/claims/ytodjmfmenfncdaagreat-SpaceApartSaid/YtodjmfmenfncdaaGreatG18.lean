/-
  Several texts in one: RQCopy, RQCopy2, RQIn, RQOut.
-/
import Derived.Test.YtodjmfmenfncdaaGreatG17
namespace Go.Proofs.YtodjmfmenfncdaaGreat
open Go.RowKit

theorem visE_same {F : Nat} {Fr : Nat → Bool} {V V' : Nat → Nat} {R : Roles} (h : WF F Fr V R) {root : Nat} (hs : ∀ t l i k, R t = some (root, l + 1, i) → k < 32 → ent V' t k = ent V t k) : ∀ l t first k, R t = some (root, l + 1, first) → k < 32 → visE V' l t first k = visE V l t first k := by
  intro l
  induction l with
  | zero =>
    intro t first k ht hk
    have e := hs t 0 first k ht hk
    rcases odd_cases V t k with o | o
    · rw [visE_no o, visE_no (by rw [e]; exact o)]
    · rw [visE_page o, visE_page (by rw [e]; exact o), e]
  | succ l ih =>
    intro t first k ht hk
    have e := hs t (l + 1) first k ht hk
    rcases odd_cases V t k with o | o
    · rw [visE_no o, visE_no (by rw [e]; exact o)]
    · have hc := (h.kid ht hk (kid_of_odd o)).1
      have o' : ent V' t k % 2 = 1 := by rw [e]; exact o
      have key : ∀ n, n ≤ 32 → visT V' l (ent V t k / 1024) (first * 32 + k) n = visT V l (ent V t k / 1024) (first * 32 + k) n := by
        intro n
        induction n with
        | zero => intro _; rw [visT_zero, visT_zero]
        | succ n ihn => intro hn; rw [visT_succ, visT_succ, ihn (by omega), ih _ _ n hc (by omega)]
      rw [visE_table o, visE_table o', e, key 32 (Nat.le_refl _)]
theorem visT_same {F : Nat} {Fr : Nat → Bool} {V V' : Nat → Nat} {R : Roles} (h : WF F Fr V R) {root : Nat} (hr : R root = some (root, 3, 0)) (hs : ∀ t l i k, R t = some (root, l + 1, i) → k < 32 → ent V' t k = ent V t k) : visT V' 2 root 0 32 = visT V 2 root 0 32 := by
  have key : ∀ n, n ≤ 32 → visT V' 2 root 0 n = visT V 2 root 0 n := by
    intro n
    induction n with
    | zero => intro _; rw [visT_zero, visT_zero]
    | succ n ihn => intro hn; rw [visT_succ, visT_succ, ihn (by omega), visE_same h hs 2 root 0 n hr (by omega)]
  exact key 32 (Nat.le_refl _)
/-- a root more turns no visit -/
theorem vis_take {F : Nat} {s : PS} {R : Roles} (h : WFS F s R) (hc : 0 < s.left F) {root : Nat} (hr : R root = some (root, 3, 0)) : visT (s.take F).V 2 root 0 32 = visT s.V 2 root 0 32 := by
  obtain ⟨g, hn, _, _⟩ := new_grow h hc
  have hne : root ≠ s.top F := by intro e; rw [← e, hr] at hn; cases hn
  exact visT_same h hr fun t l i k ht hk => ent_congr hk fun a ha => g.keep t root (l + 1) i hne ht a ha
theorem cp_pre {F : Nat} (hF : F ≤ 256) {s0 : PS} {R0 : Roles} {root to : Nat} (b : CB F s0 R0 root to) : ∀ (pre post : List (Int × Nat)), visT s0.V 2 root 0 32 = pre ++ post → ∃ R', CI F s0 R0 root to pre (cpAll F to s0 pre) R' := by
  intro pre
  -- from the end of the list
  have key : ∀ n (pre post : List (Int × Nat)), pre.length = n → visT s0.V 2 root 0 32 = pre ++ post → ∃ R', CI F s0 R0 root to pre (cpAll F to s0 pre) R' := by
    intro n
    induction n with
    | zero =>
      intro pre post hl _
      have : pre = [] := List.eq_nil_of_length_eq_zero hl
      subst this
      exact ⟨R0, b.start⟩
    | succ n ih =>
      intro pre post hl h
      have hne : pre ≠ [] := by intro e; rw [e] at hl; cases hl
      have hd := List.dropLast_concat_getLast hne
      have hl2 : pre.dropLast.length = n := by rw [List.length_dropLast, hl]; rfl
      rw [← hd, List.append_assoc] at h
      obtain ⟨R1, c⟩ := ih pre.dropLast _ hl2 h
      obtain ⟨⟨R', c'⟩, _⟩ := cp_step hF b c h
      rw [← cpAll_next, hd] at c'
      exact ⟨R', c'⟩
  exact fun post h => key pre.length pre post rfl h
theorem filter_split {α : Type} (p : α → Bool) : ∀ (l : List α) (i : Nat) (hi : i < (l.filter p).length), ∃ pre post, l = pre ++ (l.filter p)[i] :: post ∧ pre.filter p = (l.filter p).take i
  | [], i, hi => by cases hi
  | x :: l, i, hi => by
    by_cases h : p x = true
    · have e : (x :: l).filter p = x :: l.filter p := List.filter_cons_of_pos h
      match i with
      | 0 => exact ⟨[], l, by simp only [e]; rfl, by rw [e]; rfl⟩
      | i + 1 =>
        have hi' : i < (l.filter p).length := by rw [e] at hi; simpa using hi
        obtain ⟨pre, post, h1, h2⟩ := filter_split p l i hi'
        refine ⟨x :: pre, post, ?_, ?_⟩
        · simp only [e, List.getElem_cons_succ, List.cons_append]
          rw [← h1]
        · rw [e, List.filter_cons_of_pos h, h2]; rfl
    · have e : (x :: l).filter p = l.filter p := List.filter_cons_of_neg h
      have hi' : i < (l.filter p).length := by rw [e] at hi; exact hi
      obtain ⟨pre, post, h1, h2⟩ := filter_split p l i hi'
      refine ⟨x :: pre, post, ?_, ?_⟩
      · simp only [e, List.cons_append]
        rw [← h1]
      · rw [e, List.filter_cons_of_neg h, h2]
/-- what is known where page i of the list is copied -/
structure CQ (F to : Nat) (s : PS) (v : Int × Nat) (page : Nat) (R : Roles) : Prop where
  wf : WFS F s R
  hto : R to = some (to, 3, 0)
  num : v.1 = (page : Int)
  cv : CV F s to page (v.2 % 32)
  fr : v.2 / 1024 < F
theorem copy_at {F : Nat} (hF : F ≤ 256) {s0 : PS} {R0 : Roles} {root to : Nat} (b : CB F s0 R0 root to) {L : List (Int × Nat)} (hL : L = pgV (visT s0.V 2 root 0 32)) (i : Nat) (hi : i < L.length) :
    ∃ page R, CQ F to (cpAll F to s0 (L.take i)) L[i] page R ∧ cpAll F to s0 (L.take (i + 1)) = cpS F to (cpAll F to s0 (L.take i)) page (L[i].2 % 32) (L[i].2 / 1024) := by
  subst hL
  obtain ⟨pre, post, h1, h2⟩ := filter_split (fun v : Int × Nat => decide (0 ≤ v.1)) (visT s0.V 2 root 0 32) i hi
  have hp : pgV pre = (pgV (visT s0.V 2 root 0 32)).take i := h2
  have hv : 0 ≤ ((pgV (visT s0.V 2 root 0 32))[i]).1 := by
    have hm : (pgV (visT s0.V 2 root 0 32))[i] ∈ pgV (visT s0.V 2 root 0 32) := List.getElem_mem _
    simpa using (List.mem_filter.1 hm).2
  have h1' : visT s0.V 2 root 0 32 = pre ++ (pgV (visT s0.V 2 root 0 32))[i] :: post := h1
  generalize hvv : (pgV (visT s0.V 2 root 0 32))[i] = v at *
  obtain ⟨R, c⟩ := cp_pre hF b pre _ h1'
  obtain ⟨_, hc⟩ := cp_step hF b c h1'
  rw [cpAll_pages F to pre s0, hp] at c hc
  rcases hc with hneg | ⟨page, e, hf, cv⟩
  · omega
  · refine ⟨page, R, ⟨c.grow.wf, c.grow.sub _ _ b.hto, e, cv, hf⟩, ?_⟩
    rw [take_next _ i hi, hvv, cpAll_next]
    exact (cpStep_page F to _ v page e).symm
end Go.Proofs.YtodjmfmenfncdaaGreat

namespace Go.Proofs.YtodjmfmenfncdaaGreat
open Go.RowKit

/-- what the calls for one page answer -/
structure QC (rq r F to page bt fr x y g ef : Nat) (s ms : PS) : Prop where
  ilt : page < 32768
  glt : g < 9223372036854775808
  hy : y = page * 256
  km : ∀ S W, RQ S W rq r F s.Fr s.V → Calls Tryz.prog 62 #[.pointer (some ⟨rq, 0, none⟩), .int .i64 to, .int .i64 page, .int .u64 bt] W (StepQ S W rq r F ms.Fr ms.V (.int .i64 0))
  kl : ∀ S W, RQ S W rq r F ms.Fr ms.V → Calls Tryz.prog 63 #[.pointer (some ⟨r, 0, none⟩), .int .i64 to, .int .u64 (y : Nat)] W (StepQ S W rq r F ms.Fr ms.V (.tuple #[.int .u64 (x : Nat), .int .i64 0]))
  ke : ∀ S W, RQ S W rq r F ms.Fr ms.V → Calls Tryz.prog 64 #[.pointer (some ⟨r, 0, none⟩), .int .u64 (x : Nat), .int .i64 8] W (StepQ S W rq r F ms.Fr ms.V (.tuple #[.int .u64 (ef : Nat), .int .i64 0]))
  kf1 : ∀ W, Calls Tryz.prog 65 #[.int .u64 (ef : Nat)] W fun r w' => r = .returned (.int .u64 (g : Nat)) ∧ W = w'
  kc : ∀ S W, RQ S W rq r F ms.Fr ms.V → Calls Tryz.prog 60 #[.pointer (some ⟨r, 0, none⟩), .int .i64 (g : Nat), .int .i64 (fr : Nat)] W (StepQ S W rq r F ms.Fr (cpV F ms.V (g : Int) (fr : Int)) (.int .i64 (cdC F (g : Int) (fr : Int))))
theorem qc_of {rq r F to page bt fr b g : Nat} {s ms : PS} {R : Roles} (hF : F ≤ 256) (hW : WFS F s R) (hr : R to = some (to, 3, 0)) (hbt : bt < 32) (ho : bt % 2 = 1) (hm : mapS F s to page bt = (ms, 0)) (cp : page < 32768) (hb : b < F) (cl : tbLeaf ms.V F to (page * 256) = some (b * 256 + 8 * pt page 0)) (clf : g = ent ms.V b (pt page 0) / 1024) (cll : g < F) :
    QC rq r F to page bt fr (b * 256 + 8 * pt page 0) (page * 256) g (ent ms.V b (pt page 0)) s ms := by
  have hto := hW.lt _ _ hr
  have h63 : F ≤ 9223372036854775808 := Nat.le_trans hF (by decide)
  have hlf := lfR_some hto cp cl
  have KF1 := fun W => rw_frame W _ (ent_lt ms.V b (pt page 0))
  rw [← clf] at KF1
  exact ⟨cp, Nat.lt_of_lt_of_le cll h63, rfl, fun S W H => q_map H hF hW to page bt hr cp hbt ho hm, fun S W H => hlf ▸ q_lf H hF (to : Int) (page * 256), fun S W H => q_load8 H hF (b * 256 + 8 * pt page 0) (Each1.fit8 hb (pt_lt _ _)) _ rfl, KF1, fun S W H => q_copyf H hF _ _ (Int.natCast_nonneg fr)⟩
theorem pair_of {p : PS × Int} {e : Int} (h : p.2 = e) : p = (p.1, e) := by
  subst h
  cases p
  rfl
theorem qc_at {rq r F to page bt fr : Nat} {s : PS} {R : Roles} (hF : F ≤ 256) (hW : WFS F s R) (hr : R to = some (to, 3, 0)) (cv : CV F s to page bt) {T : PS} (hT : cpS F to s page bt fr = T) : ∃ x y g ef ms, QC rq r F to page bt fr x y g ef s ms ∧ T = ⟨ms.Fr, cpV F ms.V (g : Int) (fr : Int)⟩ := by
  obtain ⟨cp, cb, cbl, ce, ⟨b, hb, cl, clf⟩, cll⟩ := cv
  rw [cpS_eq F to s _ page bt fr rfl] at hT
  have hm := pair_of ce
  generalize (mapS F s to page bt).1 = ms at *
  exact ⟨_, _, _, _, ms, qc_of hF hW hr cbl cb hm cp hb cl clf cll, hT.symm⟩
theorem pg256 (page : Nat) (h : page < 32768) : wrap64 (256 * (page : Int)) = 256 * (page : Int) ∧ IntKind.i64.wrap (256 * (page : Int)) = 256 * (page : Int) ∧ IntKind.u64.wrap (256 * (page : Int)) = ((page * 256 : Nat) : Int) := by
  refine ⟨?_, i64_wrap_eq rfl (by omega), ?_⟩
  · unfold wrap64; omega
  · rw [u64_wrap]; omega
theorem copy_room {l a b n : Nat} (hn : n = 1 + a + b) (h : a + b + 1 ≤ l) : decide ((l : Int) < (n : Int)) = false ∧ ¬ l < n := ⟨decide_eq_false (by omega), by omega⟩
theorem DocAt.drew {S : Nat → Prop} {w wr : World} {rq r F : Nat} {Fr : Nat → Bool} {U : Nat → Nat} {svl svt : Value} {L : List (Int × Nat)} {T : List Nat} (h : DocAt S w rq r F Fr U svl svt L T wr) : DocAt S w rq r F Fr U svl svt L T wr.drew := ⟨h.hl, h.ht, h.q.drew, h.chg.drew, h.dis⟩
theorem meas_succ (k L : Nat) (h : k < L) : L - (((k + 1 : Nat) : Int)).toNat < L - ((k : Int)).toNat := by
  rw [Int.toNat_natCast, Int.toNat_natCast]
  omega
theorem cnt_wraps (a b : Nat) (ha : a ≤ 40000) (hb : b ≤ 40000) : wrap64 (1 + (a : Int)) = 1 + (a : Int) ∧ IntKind.i64.wrap (1 + (a : Int)) = 1 + (a : Int) ∧ wrap64 (1 + (a : Int) + (b : Int)) = ((1 + a + b : Nat) : Int) ∧ IntKind.i64.wrap (1 + (a : Int) + (b : Int)) = ((1 + a + b : Nat) : Int) := by
  refine ⟨?_, i64_wrap_eq rfl (by omega), ?_, i64_wrap_eq (by omega) (by omega)⟩
  · unfold wrap64; omega
  · unfold wrap64; omega
set_option maxRecDepth 100000 in
set_option maxHeartbeats 3200000 in
theorem q_copy_full {S : Nat → Prop} {w : World} {rq r F : Nat} {s : PS} {R : Roles} (h : RQ S w rq r F s.Fr s.V) (hF : F ≤ 256) (hW : WFS F s R) (root : Nat) (hr : R root = some (root, 3, 0)) (hc : s.left F < (visT s.V 2 root 0 32).length + 1) :
    Calls Tryz.prog 30 #[.pointer (some ⟨rq, 0, none⟩), .int .i64 root] w (StepQ S w rq r F s.Fr s.V (.tuple #[.int .i64 0, .int .i64 4])) := by
  have KP := q_pages h hF hW root hr
  have hlv : (pgV (visT s.V 2 root 0 32)).length ≤ 40000 := by have := pg_len s.V 2 root 0 32; rw [pows.1] at this; omega
  have htv : (tabT s.V 2 root 0 32).length ≤ 40000 := by have := tab_len s.V 2 root 0 32; rw [pows.1] at this; omega
  rw [← vis_parts s.V root] at hc
  have KL := fun (W : World) (S' : Nat → Prop) (H : RQ S' W rq r F s.Fr s.V) => q_left H hF
  generalize pgV (visT s.V 2 root 0 32) = L at *
  generalize tabT s.V 2 root 0 32 = T at *
  obtain ⟨l, hl⟩ : ∃ l, l = s.left F := ⟨_, rfl⟩
  rw [← hl] at KL hc
  obtain ⟨n1, n2, n3, n4⟩ := cnt_wraps L.length T.length hlv htv
  obtain ⟨n, hn⟩ : ∃ n, n = 1 + L.length + T.length := ⟨_, rfl⟩
  rw [← hn] at n3 n4
  have d1 : decide ((l : Int) < (n : Int)) = true := decide_eq_true (by omega)
  have d2 : l < n := by omega
  have KP := Lib.hid KP; have KL := Lib.hid KL
  clear h hF hW hr hc hl hlv htv hn
  go_enter Tryz.func30, Tryz.ntmps30
  go_wp2_with fail
  refine KP.out.mono ?_
  rintro e w1 ⟨svl, svt, rfl, m1⟩
  obtain ⟨ao, cap, hsv, _⟩ := PL.any m1.hl
  obtain ⟨at_, cat, hst, _⟩ := TL.any m1.ht
  have M1 := Lib.hid m1; clear m1
  subst hsv
  subst hst
  go_wp2_with fail
  refine (KL.out w1 _ M1.out.q).mono ?_
  rintro e w' ⟨rfl, rfl⟩
  go_wp2_with fail
  go_ret2
  exact ⟨rfl, M1.out.q.weak (fun k hk => .inl hk), M1.out.chg⟩
set_option maxRecDepth 100000 in
set_option maxHeartbeats 3200000 in
theorem q_copy_yes {S : Nat → Prop} {w : World} {rq r F : Nat} {s : PS} {R : Roles} (h : RQ S w rq r F s.Fr s.V) (hF : F ≤ 256) (hW : WFS F s R) (hu : Full R) (root : Nat) (hr : R root = some (root, 3, 0)) (hc : (visT s.V 2 root 0 32).length + 1 ≤ s.left F) {T : PS} (hT : cpAll F (s.top F) (s.take F) (visT (s.take F).V 2 root 0 32) = T) :
    Calls Tryz.prog 30 #[.pointer (some ⟨rq, 0, none⟩), .int .i64 root] w (StepQ S w rq r F T.Fr T.V (.tuple #[.int .i64 (s.top F : Nat), .int .i64 0])) := by
  have h0 : 0 < s.left F := Nat.lt_of_lt_of_le (Nat.succ_pos _) hc
  have hbeg := copy_begin hW hu hr (by rw [← vis_count hW hr]; exact hc) h0
  have hvt := vis_take hW h0 hr
  have KP := q_pages h hF hW root hr
  have hlv : (pgV (visT s.V 2 root 0 32)).length ≤ 40000 := by have := pg_len s.V 2 root 0 32; rw [pows.1] at this; omega
  have htv : (tabT s.V 2 root 0 32).length ≤ 40000 := by have := tab_len s.V 2 root 0 32; rw [pows.1] at this; omega
  rw [← vis_parts s.V root] at hc
  have KL := fun (W : World) (S' : Nat → Prop) (H : RQ S' W rq r F s.Fr s.V) => q_left H hF
  have KN := fun (W : World) (S' : Nat → Prop) (H : RQ S' W rq r F s.Fr s.V) => q_take H hF h0
  obtain ⟨L, hL⟩ : ∃ L, L = pgV (visT s.V 2 root 0 32) := ⟨_, rfl⟩
  have hL0 : L = pgV (visT (s.take F).V 2 root 0 32) := by rw [hvt]; exact hL
  rw [cpAll_pages, ← hL0] at hT
  rw [← hL] at hc hlv KP
  generalize tabT s.V 2 root 0 32 = TT at *
  obtain ⟨s1, hs1⟩ : ∃ s1, s1 = s.take F := ⟨_, rfl⟩
  obtain ⟨to, hto⟩ : ∃ to, to = s.top F := ⟨_, rfl⟩
  rw [← hs1] at KN hbeg hT hL0
  rw [← hto] at KN hbeg hT ⊢
  have KA := Lib.hid (fun (i : Nat) (hi : i < L.length) => copy_at hF hbeg hL0 i hi)
  have HF := Lib.hid hF
  obtain ⟨l, hl⟩ : ∃ l, l = s.left F := ⟨_, rfl⟩
  rw [← hl] at KL hc
  obtain ⟨n1, n2, n3, n4⟩ := cnt_wraps L.length TT.length hlv htv
  obtain ⟨n, hn⟩ : ∃ n, n = 1 + L.length + TT.length := ⟨_, rfl⟩
  rw [← hn] at n3 n4
  obtain ⟨d1, d2⟩ := copy_room hn hc
  have KP := Lib.hid KP; have KL := Lib.hid KL; have KN := Lib.hid KN; have HLN := Lib.hid hlv; have HT := Lib.hid hT
  clear h hF hW hr hc hl hlv htv hn hu h0 hbeg hvt hL hL0 hT hs1 hto
  go_enter Tryz.func30, Tryz.ntmps30
  go_wp2_with fail
  refine KP.out.mono ?_
  rintro e w1 ⟨svl, svt, rfl, m1⟩
  obtain ⟨ao, cap, hsv, _⟩ := PL.any m1.hl
  obtain ⟨at_, cat, hst, _⟩ := TL.any m1.ht
  have M1 := Lib.hid m1; clear m1
  subst hsv
  subst hst
  go_wp2_with fail
  refine (KL.out w1 _ M1.out.q).mono ?_
  rintro e w' ⟨rfl, rfl⟩
  go_wp2_with fail
  refine (KN.out w1 _ M1.out.q).mono ?_
  rintro e w2 ⟨rfl, m2, c2⟩
  have M2 := Lib.hid (show DocAt S w rq r F (cpAll F to s1 (L.take 0)).Fr (cpAll F to s1 (L.take 0)).V (.slice ao L.length cap) (.slice at_ TT.length cat) L TT w2 from M1.out.stepped ⟨rfl, m2, c2⟩ (v := .int .u64 0) (e := .returned (.int .u64 0))); clear m2 c2
  clear n1 n2 n3 n4 d1 d2
  go_wp2_with fail
  go_loopw [10] (fun i wr => ∃ k : Nat, k ≤ L.length ∧ i = .int .i64 k ∧ Hid (DocAt S w rq r F (cpAll F to s1 (L.take k)).Fr (cpAll F to s1 (L.take k)).V (.slice ao L.length cap) (.slice at_ TT.length cat) L TT wr)) (fun i _ => L.length - (intOf i).toNat)
  case atStart => exact ⟨0, Nat.zero_le _, rfl, M2⟩
  case round =>
    obtain ⟨k, hk, rfl, HA⟩ := hrel
    by_cases hlt : k < L.length
    · have k0 : decide ((k : Int) < (L.length : Int)) = true := decide_eq_true (Int.ofNat_lt.2 hlt)
      obtain ⟨page, R', q, hnext⟩ := KA.out k hlt
      have HROW := Lib.hid (fun (W : World) (Fr : Nat → Bool) (U : Nat → Nat) (H : DocAt S w rq r F Fr U (.slice ao L.length cap) (.slice at_ TT.length cat) L TT W) => PL.any H.hl)
      obtain ⟨a2, c2', e2, hcells⟩ := PL.any HA.out.hl
      obtain ⟨g0, hg, x1, x2, x3⟩ := hcells k hlt
      have hao : ao = a2 := by cases e2; rfl
      rw [hg] at hao
      subst hao
      rw [q.num] at x1
      have GC := Lib.hid (fun (W : World) (Fr : Nat → Bool) (U : Nat → Nat) (H : DocAt S w rq r F Fr U (.slice (some ⟨g0, 0, none⟩) L.length cap) (.slice at_ TT.length cat) L TT W) => show W.cell? ⟨g0, k * 3, none⟩ = some (.int .i64 (page : Int)) ∧ W.cell? ⟨g0, k * 3 + 1, none⟩ = some (.int .u64 ((L[k].2 % 32 : Nat) : Int)) ∧ W.cell? ⟨g0, k * 3 + 2, none⟩ = some (.int .i64 ((L[k].2 / 1024 : Nat) : Int)) from by
        obtain ⟨a3, c3', e3, hc3⟩ := PL.any H.hl
        obtain ⟨g3, hg3, y1, y2, y3⟩ := hc3 k hlt
        have h3 : (some ⟨g0, 0, none⟩ : Option Addr) = a3 := by cases e3; rfl
        rw [hg3] at h3
        cases h3
        rw [q.num] at y1
        exact ⟨y1, y2, y3⟩)
      obtain ⟨qw, qt, qn, qv, qf⟩ := q
      generalize hv2 : L[k].2 = v2 at *
      have hfr63 : v2 / 1024 < 256 := Nat.lt_of_lt_of_le qf HF.out
      obtain ⟨x, y, g, ef, ms, Q, hms⟩ := qc_at (rq := rq) (r := r) (fr := v2 / 1024) HF.out qw qt qv rfl
      rw [hms] at hnext
      obtain ⟨fr, hfr⟩ : ∃ fr, fr = v2 / 1024 := ⟨_, rfl⟩
      obtain ⟨bt, hbt⟩ : ∃ bt, bt = v2 % 32 := ⟨_, rfl⟩
      rw [← hfr, ← hbt] at GC Q
      rw [← hfr] at hnext hfr63 x3
      rw [← hbt] at x2
      have HNX := Lib.hid hnext
      have QQ := Lib.hid Q
      obtain ⟨p1, p2, p3⟩ := pg256 page Q.ilt
      rw [← Q.hy] at p3
      obtain ⟨w1', w2'⟩ := wraps63 g Q.glt
      have hlt' : k + 1 ≤ L.length := hlt
      obtain ⟨s1', s2'⟩ := succ_wrap k (by have := HLN.out; omega)
      have y0 : (0 : Int) ≤ (k : Int) := Int.natCast_nonneg k
      have y1 : (k : Int) < (L.length : Int) := Int.ofNat_lt.2 hlt
      have KM := Lib.hid (Q.km _ _ HA.out.q.drew)
      have GC0 := Lib.hid (GC.out wr _ _ HA.out)
      obtain ⟨fw1, fw2⟩ := wraps63 fr (Nat.lt_of_lt_of_le hfr63 (by decide))
      clear hnext hcells e2 hg hv2 hms hfr hbt Q qw qt qn qv qf hfr63
      go_wp2_with fail
      go_region_held3 (fun w' => w'.cell? ⟨g0, k * 3, none⟩ = some (.int .i64 (page : Int)) ∧ w'.cell? ⟨g0, k * 3 + 1, none⟩ = some (.int .u64 (bt : Int))) (first | assumption | exact ⟨x1, x2⟩ | (simp [*]; done))
        (first
          | (go_at_call 62; refine KM.out.mono ?_; rintro e v3 ⟨rfl, m9, b9⟩; have M3 := Lib.hid (DocAt.stepped (w' := v3) HA.out.drew ⟨rfl, m9, b9⟩ (v := .int .u64 0) (e := .returned (.int .u64 0))); clear m9 b9; obtain ⟨x1, x2, x3⟩ := GC.out _ _ _ M3.out))
      have KL9 := Lib.hid (QQ.out.kl _ _ M3.out.q.drew)
      have cM := M3.out.q.cell
      have CM := Lib.hid (fun (W : World) (Fr : Nat → Bool) (U : Nat → Nat) (H : DocAt S w rq r F Fr U (.slice (some ⟨g0, 0, none⟩) L.length cap) (.slice at_ TT.length cat) L TT W) => H.q.cell)
      go_wp2_with fail
      go_region_held3 (fun w' => w'.cell? ⟨rq, 0, none⟩ = some (.pointer (some ⟨r, 0, none⟩)) ∧ w'.cell? ⟨g0, k * 3, none⟩ = some (.int .i64 (page : Int))) (first | assumption | exact ⟨cM, x1⟩ | (simp [*]; done))
        (first
          | (go_at_call 63; refine KL9.out.mono ?_; rintro e v5 ⟨rfl, m9, b9⟩; have M5 := Lib.hid (DocAt.stepped (w' := v5) M3.out.drew ⟨rfl, m9, b9⟩ (v := .int .u64 0) (e := .returned (.int .u64 0))); clear m9 b9; obtain ⟨x1, x2, x3⟩ := GC.out _ _ _ M5.out; have cM5 := CM.out _ _ _ M5.out))
      have KE10 := Lib.hid (QQ.out.ke _ _ M5.out.q)
      clear KL9 cM
      go_wp2_with fail
      refine KE10.out.mono ?_
      rintro e w6 ⟨rfl, m6, c6⟩
      have M6 := Lib.hid (M5.out.stepped ⟨rfl, m6, c6⟩ (v := .int .u64 0) (e := .returned (.int .u64 0))); clear m6 c6
      have KF11 := Lib.hid (QQ.out.kf1 w6.drew)
      have KC11 := Lib.hid (QQ.out.kc _ _ M6.out.q.drew)
      have cM6 := CM.out _ _ _ M6.out
      obtain ⟨y1', y2', y3'⟩ := GC.out _ _ _ M6.out
      go_wp2_with fail
      go_region_held3 (fun w' => w'.cell? ⟨rq, 0, none⟩ = some (.pointer (some ⟨r, 0, none⟩)) ∧ w'.cell? ⟨g0, k * 3 + 2, none⟩ = some (.int .i64 (fr : Int))) (first | assumption | exact ⟨cM6, y3'⟩ | (simp [*]; done))
        (first
          | (go_at_call 65; refine KF11.out.mono ?_; rintro e v7 ⟨rfl, rfl⟩)
          | (go_at_call 60; refine KC11.out.mono ?_; rintro e v8 ⟨rfl, m9, b9⟩; have M8 := Lib.hid (DocAt.stepped (w' := v8) M6.out.drew ⟨rfl, m9, b9⟩ (v := .int .u64 0) (e := .returned (.int .u64 0))); clear m9 b9; obtain ⟨z1, z2, z3⟩ := GC.out _ _ _ M8.out; have cM8 := CM.out _ _ _ M8.out))
      go_wp2_with fail
      go_roundw
      case rel => exact ⟨k + 1, hlt', rfl, by rw [HNX.out]; exact M8⟩
      case measure => exact meas_succ k _ hlt
    · obtain rfl : k = L.length := by omega
      have k0 : decide ((L.length : Int) < (L.length : Int)) = false := decide_eq_false (Int.lt_irrefl _)
      have FIN := Lib.hid (show RQ S wr rq r F T.Fr T.V ∧ Chg (fun k => ¬ S k) w wr from by
        have h9 := HA.out
        rw [List.take_length, HT.out] at h9
        exact ⟨h9.q.weak (fun k hk => .inl hk), h9.chg⟩)
      clear hlt HA
      go_wp2_with fail
      go_ret2
      exact ⟨rfl, FIN.out⟩
end Go.Proofs.YtodjmfmenfncdaaGreat

namespace Go.Proofs.YtodjmfmenfncdaaGreat
open Go.RowKit

theorem Tryz.infoU8Q : (Tryz.prog.info? 5).map (fun i => (i.zero, i.size, i.bytes)) = some (some (.int .u8 0), 1, 1) := by kernel_rfl
/-- the numbers at these addresses -/
def inN (U : Nat → Nat) (xs : List Nat) : List Int := xs.map fun a => ((U a : Nat) : Int)
theorem memStr_one (V : Nat → Nat) (a : Nat) : memStr V a 1 = strOfNums [((V a : Nat) : Int)] := rfl
theorem inS_str (V : Nat → Nat) : ∀ xs : List Nat, strOfNums (inN V xs) = ⟨(inS V xs).toArray⟩
  | [] => rfl
  | x :: xs => by
    have h : inS V (x :: xs) = (memStr V x 1).data.toList ++ inS V xs := by unfold inS; rw [List.flatMap_cons]
    have h2 : inN V (x :: xs) = [((V x : Nat) : Int)] ++ inN V xs := rfl
    rw [h, h2, strOfNums_append, inS_str V xs, ← memStr_one]
    apply ByteArray.ext
    apply Array.ext'
    simp
/-- a row of bytes beside the document's pool -/
structure BQ (S : Nat → Prop) (w : World) (rq r F : Nat) (Fr : Nat → Bool) (U : Nat → Nat) (sv : Value) (xs : List Int) (wr : World) : Prop where
  own : wr.ownsRow w.heap.size 5 1 sv xs.length (xs.map (Value.int .u8))
  q : RQ (fun k => S k ∨ sv.ownBlock = some k) wr rq r F Fr U
  chg : Chg (fun k => ¬ S k) w wr
theorem BQ.start {S : Nat → Prop} {w : World} {rq r F : Nat} {Fr : Nat → Bool} {U : Nat → Nat} (h : RQ S w rq r F Fr U) : BQ S w rq r F Fr U (.slice none 0 0) [] w :=
  ⟨World.ownsRow_nil _ _ _ _, h.weak (fun k hk => by rcases hk with hk | hk; exact hk; cases hk), Chg.refl _ _⟩
theorem BQ.stepped {S : Nat → Prop} {w wr w' : World} {rq r F : Nat} {Fr Fr' : Nat → Bool} {U U' : Nat → Nat} {sv v : Value} {xs : List Int} {e : Ending} (h : BQ S w rq r F Fr U sv xs wr) (k : StepQ (fun k => S k ∨ sv.ownBlock = some k) wr rq r F Fr' U' v e w') : BQ S w rq r F Fr' U' sv xs w' :=
  ⟨ownsRow_chg h.own k.2.2 (fun k hk a => a (.inr hk)), k.2.1, h.chg.trans (k.2.2.mono (fun k a b => a (.inl b)))⟩
theorem BQ.add {S : Nat → Prop} {w wr w1 : World} {rq r F TT : Nat} {Fr : Nat → Bool} {U : Nat → Nat} {sv v' : Value} {c : Array Value} {xs : List Int} {x : Int} (h : BQ S w rq r F Fr U sv xs wr)
    (h1 : w1.ownsRow w.heap.size 5 1 v' (xs.length + 1) ((xs.map (Value.int .u8)) ++ [.int .u8 x])) (hg : (wr.alloc (.cells c TT)).grownBy w1 sv.ownBlock) (hat : v'.ownBlock = sv.ownBlock ∨ v'.ownBlock = some (wr.alloc (.cells c TT)).heap.size) :
    BQ S w rq r F Fr U v' (xs ++ [x]) w1 := by
  have hc : Chg (fun k => sv.ownBlock = some k) wr w1 := ((Chg.refl _ wr).alloc _).grown hg (fun k hk => .inl hk)
  have hz : (wr.alloc (.cells c TT)).heap.size = wr.heap.size + 1 := by simp
  refine ⟨?_, h.q.beside hc (fun k hk => .inr hk) (fun k hk => ?_) (fun k hk => ?_), h.chg.trans' hc (fun k hk => .inr (ownsRow_lt h.own k hk).1)⟩
  · rw [List.length_append, List.map_append]; exact h1
  · rcases hk with hk | hk
    · exact .inl (.inl hk)
    · rcases hat with e | e
      · exact .inl (.inr (e ▸ hk))
      · rw [e, hz] at hk
        cases hk
        exact .inr (by omega)
  · rcases hk with hk | hk
    · exact Nat.lt_of_lt_of_le (h.q.lt k (.inl hk)) hc.size
    · exact (ownsRow_lt h1 k hk).2
theorem RQ.bytes {S : Nat → Prop} {w : World} {rq r F : Nat} {Fr : Nat → Bool} {U : Nat → Nat} (h : RQ S w rq r F Fr U) : ∃ g, w.cell? ⟨r, 0, none⟩ = some (.slice (some ⟨g, 0, none⟩) (F * 256) (F * 256)) ∧ ∀ i, i < F * 256 → w.cell? ⟨g, i, none⟩ = some (.int .u8 (U i : Nat)) := by
  obtain ⟨hd, g, u, hu, hp, hn, hS⟩ := h
  exact ⟨g, hp.mem.blk.cellv 0 _ rfl, fun i hi => hp.mem.cellg i hi⟩
def InQ (U : Nat → Nat) (F root at_ j : Nat) (xs : List Int) : Prop := ∃ ys, adrs U F root at_ 1 j = some ys ∧ xs = inN U ys
theorem InQ_len {U : Nat → Nat} {F root at_ j : Nat} {xs : List Int} (h : InQ U F root at_ j xs) : xs.length = j := by
  obtain ⟨ys, h1, h2⟩ := h
  rw [h2]
  unfold inN
  rw [List.length_map, adrs_len j ys h1]
theorem in_km {xs : List Int} {j : Nat} (h : xs.length = j) (hj : j < 4097) : xs.length + 1 ≤ maxLen ∧ (xs.length + 1) * 1 ≤ 140737488355328 := by
  unfold maxLen
  omega
theorem ix_nums {a F : Nat} (h : a < F * 256) : (0 : Int) ≤ (a : Int) ∧ (a : Int) < ((F * 256 : Nat) : Int) ∧ (a : Int) < (F : Int) * 256 := by omega
set_option maxRecDepth 100000 in
set_option maxHeartbeats 1600000 in
theorem q_in {S : Nat → Prop} {w : World} {rq r F : Nat} {Fr : Nat → Bool} {U : Nat → Nat} {R : Roles} (h : RQ S w rq r F Fr U) (hF : F ≤ 256) (hW : WF F Fr U R) (root : Nat) (hr : R root = some (root, 3, 0)) (at_ n : Nat) (hn : n ≤ 4096) :
    Calls Tryz.prog 66 #[.pointer (some ⟨rq, 0, none⟩), .int .i64 root, .int .u64 at_, .int .i64 n] w (StepQ S w rq r F Fr U (inR U (adrs U F root at_ 1 n))) := by
  obtain ⟨i0, hi, hz0, hz1, hz2⟩ := info_parts Tryz.infoU8Q
  have HT := q_taken h hF root
  rw [hW.taken hr] at HT
  have hrF := hW.lt _ _ hr
  have KW := fun (W : World) (S' : Nat → Prop) (x : Nat) (H : RQ S' W rq r F Fr U) => q_wk H hF root x 1
  have KW := fun (W : World) (S' : Nat → Prop) (x : Nat) (H : RQ S' W rq r F Fr U) => (wkR_at U F root x 1 hrF (by omega)) ▸ KW W S' x H
  have d1 : decide ((4096 : Int) < (n : Int)) = false := decide_eq_false (by omega)
  have d2 : ¬ 4096 < n := by omega
  have d3 : decide ((n : Int) < (0 : Int)) = false := decide_eq_false (by omega)
  have HT := Lib.hid HT; have KW := Lib.hid KW; have M1 := Lib.hid (BQ.start h)
  have HN := Lib.hid (And.intro hn hF)
  clear h hF hW hr hrF hn
  go_enter Tryz.func66, Tryz.ntmps66
  go_wp2_with fail
  refine HT.out.mono ?_
  rintro e w1 ⟨rfl, rfl⟩
  go_wp2_with fail
  go_loopw [11, 12] (fun xv i wr => ∃ sv xs j, sv = xv ∧ j ≤ n ∧ i = .int .i64 (j : Nat) ∧ Hid (BQ S w rq r F Fr U sv xs wr) ∧ Hid (InQ U F root at_ j xs)) (fun _ i _ => n - (intOf i).toNat)
  case atStart => exact ⟨_, [], 0, rfl, Nat.zero_le _, rfl, M1, Lib.hid ⟨[], rfl, rfl⟩⟩
  case round =>
    obtain ⟨sv, xs, j, rfl, hj, rfl, HA, HO⟩ := hrel
    by_cases hlt : j < n
    · have k0 : decide ((j : Int) < (n : Int)) = true := decide_eq_true (by omega)
      have hn := HN.out.1
      obtain ⟨km, kb⟩ := in_km (InQ_len HO.out) (show j < 4097 by omega)
      obtain ⟨t1, t2⟩ := at_wrap at_ j (by omega)
      obtain ⟨X, hX⟩ : ∃ X, X = (at_ + j) % 18446744073709551616 := ⟨_, rfl⟩
      rw [← hX] at t2
      have cM := HA.out.q.cell
      have KW1 := KW.out wr _ X HA.out.q
      have HX := Lib.hid hX
      obtain ⟨ys, hys, hxs⟩ := HO.out
      have HL := Lib.hid (And.intro hys hxs)
      clear hX hn hys hxs
      rcases opt_cases (tbAt U F root X 1) with ht | ⟨a, ht⟩
      · have hno := adrs_none (j + 1) n (by omega) (adrs_step_no HL.out.1 (by rw [← HX.out]; exact ht))
        rw [ht, lfVal_none] at KW1
        have KW1 := Lib.hid KW1
        have HE := Lib.hid (show inR U (adrs U F root at_ 1 n) = .tuple #[.string ⟨#[]⟩, .int .i64 3] from by rw [hno]; rfl)
        clear ht hno
        go_wp2_with fail
        refine KW1.out.mono ?_
        rintro e w3 ⟨rfl, m3, c3⟩
        have M3 := Lib.hid (HA.out.stepped ⟨rfl, m3, c3⟩ (v := .int .u64 0) (e := .returned (.int .u64 0))); clear m3 c3
        go_wp2_with fail
        go_ret2
        exact ⟨congrArg Ending.returned HE.out.symm, M3.out.q.weak (fun k a => .inl a), M3.out.chg⟩
      · have haF := tbAt_lt ht
        have HST := Lib.hid (show InQ U F root at_ (j + 1) (xs ++ [((U a : Nat) : Int)]) from ⟨ys ++ [a], adrs_step HL.out.1 (by rw [← HX.out]; exact ht), by rw [HL.out.2]; unfold inN; rw [List.map_append]; rfl⟩)
        rw [ht, lfVal_some] at KW1
        have KW1 := Lib.hid KW1
        obtain ⟨z0, z1, z2⟩ := ix_nums haF
        clear ht
        go_wp2_with fail
        refine KW1.out.mono ?_
        rintro e w3 ⟨rfl, m3, c3⟩
        have M3 := Lib.hid (HA.out.stepped ⟨rfl, m3, c3⟩ (v := .int .u64 0) (e := .returned (.int .u64 0))); clear m3 c3
        obtain ⟨g, cR, cB⟩ := M3.out.q.bytes
        have cb := cB a haF
        have cM3 := M3.out.q.cell
        generalize U a = ua at *
        have hU9 := M3.out.own
        have hszz : w.heap.size ≤ w3.heap.size := M3.out.chg.size
        clear t1 t2 cB cM haF
        go_wp2_with (at_builtin; refine wpList_append_own_at _ rfl (.tmp 48) (.tmp 59) 46 rfl w.heap.size 5 i0 (.int .u8 0) 1 1 Tryz.underlying46 hi hz0 hz1 hz2 rfl (by decide) _ _ _ rfl (hU9.alloc _) ⟨w3.heap.size, 0, none⟩ 1 1 [.int .u8 (ua : Int)] rfl rfl (cell_one_new _ _ _) (by simp [Value.oneCell']) km kb (by simp; omega) ?_; intro v' w6 hown1 hgrow1 _ hat1; have HN2 := Lib.hid (M3.out.add hown1 hgrow1 hat1); clear hown1 hgrow1 hat1)
        go_roundw
        case rel => exact ⟨_, _, j + 1, rfl, by omega, by go_num, HN2, HST⟩
        case measure => simp [intOf]; omega
    · obtain rfl : j = n := by omega
      have k0 : decide ((j : Int) < (j : Int)) = false := decide_eq_false (by omega)
      obtain ⟨ys, hys, hxs⟩ := HO.out
      have hcv := conv_own HA.out.own
      have HE := Lib.hid (show inR U (adrs U F root at_ 1 j) = .tuple #[.string (strOfNums xs), .int .i64 0] from by rw [hys, hxs, inS_str]; rfl)
      clear hlt hys hxs
      go_wp2_with fail
      go_ret2
      exact ⟨congrArg Ending.returned HE.out.symm, HA.out.q.weak (fun k a => .inl a), HA.out.chg⟩
end Go.Proofs.YtodjmfmenfncdaaGreat

namespace Go.Proofs.YtodjmfmenfncdaaGreat
open Go.RowKit

theorem bind_same {α β : Type} (o : Option α) (f g : α → Option β) (h : ∀ x, o = some x → f x = g x) : o.bind f = o.bind g := by
  cases o with
  | none => rfl
  | some x => exact h x rfl
/-- an address hangs on the tables alone -/
theorem tbLeaf_same {F : Nat} {s : PS} {V' : Nat → Nat} {R : Roles} (h : WFS F s R) {root : Nat} (hr : R root = some (root, 3, 0)) (hs : ∀ t l i k, R t = some (root, l + 1, i) → k < 32 → ent V' t k = ent s.V t k) (a : Nat) : tbLeaf V' F root a = tbLeaf s.V F root a := by
  have e3 : entV V' (root * 256 + 8 * (a / 262144 % 32)) = entV s.V (root * 256 + 8 * (a / 262144 % 32)) := hs root 2 0 _ hr (mod32_lt _)
  unfold tbLeaf
  rw [e3]
  refine bind_same _ _ _ fun x h1 => ?_
  obtain ⟨o1, d1⟩ := tbGo_some h1
  have k1 : kid s.V root (a / 262144 % 32) = some x := by rw [kid_of_odd (show ent s.V root (a / 262144 % 32) % 2 = 1 from o1)]; exact congrArg some d1
  have r1 := (h.kid hr (mod32_lt _) k1).1
  have e2 : entV V' (x * 256 + 8 * (a / 8192 % 32)) = entV s.V (x * 256 + 8 * (a / 8192 % 32)) := hs x 1 _ _ r1 (mod32_lt _)
  rw [e2]
theorem tbAt_same {F : Nat} {s : PS} {V' : Nat → Nat} {R : Roles} (h : WFS F s R) {root : Nat} (hr : R root = some (root, 3, 0)) (hs : ∀ t l i k, R t = some (root, l + 1, i) → k < 32 → ent V' t k = ent s.V t k) (a acc : Nat) : tbAt V' F root a acc = tbAt s.V F root a acc := by
  unfold tbAt
  by_cases c : 8388608 ≤ a
  · rw [if_pos c, if_pos c]
  · rw [if_neg c, if_neg c]
    unfold tbWalk
    rw [tbLeaf_same h hr hs]
    refine bind_same _ _ _ fun x hl => ?_
    obtain ⟨b, i, k, hk, hb, hx⟩ := leaf_role h hr hl
    have e : entV V' (b * 256 + 8 * k) = entV s.V (b * 256 + 8 * k) := hs b 0 i k hb hk
    rw [← hx] at e
    rw [e]
/-- while bytes are put, addresses stay -/
theorem out_at {F : Nat} {s : PS} {R : Roles} (h : WFS F s R) {root at_ n : Nat} (hr : R root = some (root, 3, 0)) {ys : List Nat} (hy : adrs s.V F root at_ 2 n = some ys) (b : ByteArray) (j : Nat) (hj : j ≤ n) (a acc : Nat) : tbAt (outV s.V ys b j) F root a acc = tbAt s.V F root a acc := by
  refine tbAt_same h hr (fun t l i k ht hk => ent_congr hk fun x hx => ?_) a acc
  refine outV_same j (by rw [adrs_len n ys hy]; exact hj) fun hm => ?_
  obtain ⟨i', e⟩ := adrs_role h hr n ys hy x hm
  rw [hx, ht] at e
  cases e
theorem RQ.byte {S : Nat → Prop} {w : World} {rq r F : Nat} {Fr : Nat → Bool} {U : Nat → Nat} (h : RQ S w rq r F Fr U) (a x : Nat) (ha : a < F * 256) (hx : x < 256) : ∃ g, w.cell? ⟨r, 0, none⟩ = some (.slice (some ⟨g, 0, none⟩) (F * 256) (F * 256)) ∧ w.cell? ⟨g, a, none⟩ = some (.int .u8 (U a : Nat)) ∧ w.frozen? ⟨g, a, none⟩ = false ∧
    RQ S (w.setCell ⟨g, a, none⟩ (.int .u8 x)) rq r F Fr (putV U a 1 (fun _ => x)) ∧ Chg (fun k => ¬ S k) w (w.setCell ⟨g, a, none⟩ (.int .u8 x)) := by
  obtain ⟨hd, g, u, hu, hp, hn, hS⟩ := h
  have hm := hp.mem
  have c : Chg (fun i => i = g) w (w.setCell ⟨g, a, none⟩ (.int .u8 x)) := (Chg.refl _ _).setCell _ _ (.inl rfl)
  have hm' : RM (w.setCell ⟨g, a, none⟩ (.int .u8 x)) r g F (putV U a 1 (fun _ => x)) u := by
    refine ⟨c.blk hm.blk hm.ne, (hm.row.set a x ha).congr fun i hi => ?_, hm.ne, putV_small hm.small (fun _ => hx)⟩
    unfold putV
    by_cases e : i = a
    · rw [if_pos e, if_pos (by omega)]
    · rw [if_neg e, if_neg (by omega)]
  have hk : RmK w r g F u (putV U a 1 (fun _ => x)) (.int .u64 0) (.returned (.int .u64 0)) (w.setCell ⟨g, a, none⟩ (.int .u8 x)) := ⟨rfl, hm', c.mono fun _ h => .inr h⟩
  obtain ⟨_, q1, q2⟩ := RQ.step hu hn hS (hp.worked hk)
  have fg : w.frozen? ⟨g, a, none⟩ = false := by obtain ⟨cs, hb, _, _⟩ := hm.row; exact hb.free _
  exact ⟨g, hm.blk.cellv 0 _ rfl, hm.cellg a ha, fg, q1, q2⟩
def OutQ (V : Nat → Nat) (F root at_ i : Nat) : Prop := ∃ xs, adrs V F root at_ 2 i = some xs
set_option maxRecDepth 100000 in
set_option maxHeartbeats 1600000 in
theorem q_out_no {S : Nat → Prop} {w : World} {rq r F : Nat} {Fr : Nat → Bool} {U : Nat → Nat} {R : Roles} (h : RQ S w rq r F Fr U) (hF : F ≤ 256) (hW : WF F Fr U R) (root : Nat) (hr : R root = some (root, 3, 0)) (at_ : Nat) (s : ByteArray) (hs : s.size ≤ 4096) (hno : adrs U F root at_ 2 s.size = none) :
    Calls Tryz.prog 67 #[.pointer (some ⟨rq, 0, none⟩), .int .i64 root, .int .u64 at_, .string s] w (StepQ S w rq r F Fr U (.int .i64 3)) := by
  have HT := q_taken h hF root
  rw [hW.taken hr] at HT
  have hrF := hW.lt _ _ hr
  have KW := fun (W : World) (x : Nat) (H : RQ S W rq r F Fr U) => q_wk H hF root x 2
  have KW := fun (W : World) (x : Nat) (H : RQ S W rq r F Fr U) => (wkR_at U F root x 2 hrF (by omega)) ▸ KW W x H
  have d1 : decide ((4096 : Int) < (s.size : Int)) = false := decide_eq_false (by omega)
  have d2 : ¬ 4096 < s.size := by omega
  have HT := Lib.hid HT; have KW := Lib.hid KW
  have M1 := Lib.hid (show RQ S w rq r F Fr U ∧ Chg (fun k => ¬ S k) w w from ⟨h, Chg.refl _ _⟩)
  have HN := Lib.hid (And.intro hs hno)
  clear h hF hW hr hrF hs hno
  generalize hsz : s.size = n at *
  have HSZ := Lib.hid hsz
  go_enter Tryz.func67, Tryz.ntmps67
  go_wp2_with fail
  refine HT.out.mono ?_
  rintro e w1 ⟨rfl, rfl⟩
  go_wp2_with fail
  go_loopw [10] (fun i wr => ∃ j : Nat, j ≤ n ∧ i = .int .i64 (j : Nat) ∧ Hid (RQ S wr rq r F Fr U ∧ Chg (fun k => ¬ S k) w wr) ∧ Hid (OutQ U F root at_ j)) (fun i _ => n - (intOf i).toNat)
  case atStart => exact ⟨0, Nat.zero_le _, rfl, M1, Lib.hid ⟨[], rfl⟩⟩
  case round =>
    obtain ⟨j, hj, rfl, HA, HO⟩ := hrel
    by_cases hlt : j < n
    · have k0 : decide ((j : Int) < (n : Int)) = true := decide_eq_true (by omega)
      have hn := HN.out.1
      obtain ⟨t1, t2⟩ := at_wrap at_ j (by omega)
      obtain ⟨X, hX⟩ : ∃ X, X = (at_ + j) % 18446744073709551616 := ⟨_, rfl⟩
      rw [← hX] at t2
      have cM := HA.out.1.cell
      have KW1 := KW.out wr X HA.out.1
      have HX := Lib.hid hX
      obtain ⟨ys, hys⟩ := HO.out
      have HL := Lib.hid hys
      clear hX hn hys
      rcases opt_cases (tbAt U F root X 2) with ht | ⟨a, ht⟩
      · rw [ht, lfVal_none] at KW1
        have KW1 := Lib.hid KW1
        clear ht
        go_wp2_with fail
        refine KW1.out.mono ?_
        rintro e w3 ⟨rfl, m3, c3⟩
        have M3 := Lib.hid (And.intro m3 (HA.out.2.trans c3)); clear m3 c3
        go_wp2_with fail
        go_ret
        exact ⟨rfl, M3.out⟩
      · have HST := Lib.hid (show OutQ U F root at_ (j + 1) from ⟨ys ++ [a], adrs_step HL.out (by rw [← HX.out]; exact ht)⟩)
        rw [ht, lfVal_some] at KW1
        have KW1 := Lib.hid KW1
        clear ht
        go_wp2_with fail
        refine KW1.out.mono ?_
        rintro e w3 ⟨rfl, m3, c3⟩
        have M3 := Lib.hid (And.intro m3 (HA.out.2.trans c3)); clear m3 c3
        clear t1 t2
        go_wp2_with fail
        go_roundw
        case rel => exact ⟨j + 1, by omega, by go_num, M3, HST⟩
        case measure => simp [intOf]; omega
    · obtain rfl : j = n := by omega
      obtain ⟨ys, hys⟩ := HO.out
      have h1 := HN.out.2
      rw [h1] at hys
      cases hys
set_option maxRecDepth 100000 in
set_option maxHeartbeats 1600000 in
theorem q_out_yes {S : Nat → Prop} {w : World} {rq r F : Nat} {s : PS} {R : Roles} (h : RQ S w rq r F s.Fr s.V) (hF : F ≤ 256) (hW : WFS F s R) (root : Nat) (hr : R root = some (root, 3, 0)) (at_ : Nat) (b : ByteArray) (hs : b.size ≤ 4096) (ys : List Nat) (hy : adrs s.V F root at_ 2 b.size = some ys) :
    Calls Tryz.prog 67 #[.pointer (some ⟨rq, 0, none⟩), .int .i64 root, .int .u64 at_, .string b] w (StepQ S w rq r F s.Fr (outV s.V ys b b.size) (.int .i64 0)) := by
  have HT := q_taken h hF root
  rw [hW.taken hr] at HT
  have hrF := hW.lt _ _ hr
  have KW := fun (W : World) (V : Nat → Nat) (x : Nat) (H : RQ S W rq r F s.Fr V) => q_wk H hF root x 2
  have KW := fun (W : World) (V : Nat → Nat) (x : Nat) (H : RQ S W rq r F s.Fr V) => (wkR_at V F root x 2 hrF (by omega)) ▸ KW W V x H
  have HAT := Lib.hid (fun (j : Nat) (hj : j ≤ b.size) (a : Nat) => out_at hW hr hy b j hj a 2)
  have HGET := Lib.hid (adrs_get b.size ys hy)
  have HLEN := Lib.hid (adrs_len b.size ys hy)
  have HLT := Lib.hid (adrs_lt b.size ys hy)
  have d1 : decide ((4096 : Int) < (b.size : Int)) = false := decide_eq_false (by omega)
  have d2 : ¬ 4096 < b.size := by omega
  have HT := Lib.hid HT; have KW := Lib.hid KW
  have M1 := Lib.hid (show RQ S w rq r F s.Fr s.V ∧ Chg (fun k => ¬ S k) w w from ⟨h, Chg.refl _ _⟩)
  have HN := Lib.hid (And.intro hs hy)
  clear h hF hW hr hrF hs hy
  go_enter Tryz.func67, Tryz.ntmps67
  go_wp2_with fail
  refine HT.out.mono ?_
  rintro e w1 ⟨rfl, rfl⟩
  go_wp2_with fail
  go_loopw [10] (fun i wr => ∃ j : Nat, j ≤ b.size ∧ i = .int .i64 (j : Nat) ∧ Hid (RQ S wr rq r F s.Fr s.V ∧ Chg (fun k => ¬ S k) w wr)) (fun i _ => b.size - (intOf i).toNat)
  case atStart => exact ⟨0, Nat.zero_le _, rfl, M1⟩
  case round =>
    obtain ⟨j, hj, rfl, HA⟩ := hrel
    by_cases hlt : j < b.size
    · have k0 : decide ((j : Int) < (b.size : Int)) = true := decide_eq_true (by omega)
      have hn := HN.out.1
      obtain ⟨t1, t2⟩ := at_wrap at_ j (by omega)
      have hg := HGET.out j (by rw [HLEN.out]; exact hlt)
      obtain ⟨X, hX⟩ : ∃ X, X = (at_ + j) % 18446744073709551616 := ⟨_, rfl⟩
      rw [← hX] at t2 hg
      have cM := HA.out.1.cell
      have KW1 := KW.out wr _ X HA.out.1
      rw [hg, lfVal_some] at KW1
      have KW1 := Lib.hid KW1
      clear hX hn hg
      go_wp2_with fail
      refine KW1.out.mono ?_
      rintro e w3 ⟨rfl, m3, c3⟩
      have M3 := Lib.hid (And.intro m3 (HA.out.2.trans c3)); clear m3 c3
      clear t1 t2
      go_wp2_with fail
      go_roundw
      case rel => exact ⟨j + 1, by omega, by go_num, M3⟩
      case measure => simp [intOf]; omega
    · obtain rfl : j = b.size := by omega
      have k0 : decide ((b.size : Int) < (b.size : Int)) = false := decide_eq_false (by omega)
      have M5 := Lib.hid (show RQ S wr rq r F s.Fr (outV s.V ys b 0) ∧ Chg (fun k => ¬ S k) w wr from HA.out)
      clear hlt HA
      go_wp2_with fail
      go_loopw [13] (fun i wr => ∃ j : Nat, j ≤ b.size ∧ i = .int .i64 (j : Nat) ∧ Hid (RQ S wr rq r F s.Fr (outV s.V ys b j) ∧ Chg (fun k => ¬ S k) w wr)) (fun i _ => b.size - (intOf i).toNat)
      case atStart => exact ⟨0, Nat.zero_le _, rfl, M5⟩
      case round =>
        obtain ⟨j, hj, rfl, HA⟩ := hrel
        by_cases hlt : j < b.size
        · have k0 : decide ((j : Int) < (b.size : Int)) = true := decide_eq_true (by omega)
          have hn := HN.out.1
          obtain ⟨t1, t2⟩ := at_wrap at_ j (by omega)
          have hjl : j < ys.length := by rw [HLEN.out]; exact hlt
          have hg := HGET.out j hjl
          have hlt9 := HLT.out _ (List.getElem_mem hjl)
          have hgd : ys.getD j 0 = ys[j] := by rw [List.getD, List.getElem?_eq_getElem hjl]; rfl
          obtain ⟨a, ha⟩ : ∃ a, a = ys[j] := ⟨_, rfl⟩
          rw [← ha] at hg hlt9 hgd
          obtain ⟨X, hX⟩ : ∃ X, X = (at_ + j) % 18446744073709551616 := ⟨_, rfl⟩
          rw [← hX] at t2 hg
          have cM := HA.out.1.cell
          have KW1 := KW.out wr _ X HA.out.1
          rw [HAT.out j hj X, hg, lfVal_some] at KW1
          have KW1 := Lib.hid KW1
          obtain ⟨z0, z1, z2⟩ := ix_nums hlt9
          have y0 : (0 : Int) ≤ (j : Int) := by omega
          have y1 : (j : Int) < (b.size : Int) := by omega
          have hbg := byt_get b j hlt
          have NX := Lib.hid (show putV (outV s.V ys b j) a 1 (fun _ => byt b j) = outV s.V ys b (j + 1) from by
            show _ = putV (outV s.V ys b j) (ys.getD j 0) 1 (fun _ => byt b j)
            rw [hgd])
          have HLA := Lib.hid hlt9
          clear hX hn hg ha hgd hjl hlt9
          go_wp2_with fail
          refine KW1.out.mono ?_
          rintro e w3 ⟨rfl, m3, c3⟩
          have M3 := Lib.hid (And.intro m3 (HA.out.2.trans c3))
          obtain ⟨g, cR, cB, fB, m4, c4⟩ := m3.byte a (byt b j) HLA.out (byt_lt b j)
          rw [NX.out] at m4
          rw [← hbg] at m4 c4
          have M4 := Lib.hid (And.intro m4 (M3.out.2.trans c4))
          have cM3 := M3.out.1.cell
          clear m3 c3 m4 c4 t1 t2 hbg cM
          go_wp2_with fail
          go_region
          all_goals
            go_wp2_with fail
            go_roundw
            case rel => exact ⟨j + 1, by omega, by go_num, ⟨M4.out.1.drew, M4.out.2.drew⟩⟩
            case measure => simp [intOf]; omega
        · obtain rfl : j = b.size := by omega
          have k0 : decide ((b.size : Int) < (b.size : Int)) = false := decide_eq_false (by omega)
          clear hlt
          go_wp2_with fail
          go_ret
          exact ⟨rfl, HA.out⟩
end Go.Proofs.YtodjmfmenfncdaaGreat
