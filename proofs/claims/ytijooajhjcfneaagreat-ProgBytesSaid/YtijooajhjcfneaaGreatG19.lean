/-
  Several texts in one: RQCopy, RQCopy2, RQIn, RQOut.
-/
import Derived.Test.YtijooajhjcfneaaGreatG18
namespace Go.Proofs.YtijooajhjcfneaaGreat
open Go.RowKit

theorem visE_same {F : Nat} {Fr : Nat → Bool} {V V' : Nat → Nat} {R : Roles} (h : WF F Fr V R) {root : Nat} (hs : ∀ t l i k, R t = some (root, l + 1, i) → k < 32 → ent V' t k = ent V t k) : ∀ l t first k, R t = some (root, l + 1, first) → k < 32 → visE V' l t first k = visE V l t first k := by
  intro l
  induction l with
  | zero =>
    intro t first k ht hk
    have e := hs t 0 first k ht hk
    rcases odd_cases V t k with o | o
    · rw [visE_no o, visE_no (by rw [e]; exact o)]
    · rw [visE_page o, visE_page (by rw [e]; exact o), e]
  | succ l ih =>
    intro t first k ht hk
    have e := hs t (l + 1) first k ht hk
    rcases odd_cases V t k with o | o
    · rw [visE_no o, visE_no (by rw [e]; exact o)]
    · have hc := (h.kid ht hk (kid_of_odd o)).1
      have o' : ent V' t k % 2 = 1 := by rw [e]; exact o
      have key : ∀ n, n ≤ 32 → visT V' l (ent V t k / 1024) (first * 32 + k) n = visT V l (ent V t k / 1024) (first * 32 + k) n := by
        intro n
        induction n with
        | zero => intro _; rw [visT_zero, visT_zero]
        | succ n ihn => intro hn; rw [visT_succ, visT_succ, ihn (by omega), ih _ _ n hc (by omega)]
      rw [visE_table o, visE_table o', e, key 32 (Nat.le_refl _)]
theorem visT_same {F : Nat} {Fr : Nat → Bool} {V V' : Nat → Nat} {R : Roles} (h : WF F Fr V R) {root : Nat} (hr : R root = some (root, 3, 0)) (hs : ∀ t l i k, R t = some (root, l + 1, i) → k < 32 → ent V' t k = ent V t k) : visT V' 2 root 0 32 = visT V 2 root 0 32 := by
  have key : ∀ n, n ≤ 32 → visT V' 2 root 0 n = visT V 2 root 0 n := by
    intro n
    induction n with
    | zero => intro _; rw [visT_zero, visT_zero]
    | succ n ihn => intro hn; rw [visT_succ, visT_succ, ihn (by omega), visE_same h hs 2 root 0 n hr (by omega)]
  exact key 32 (Nat.le_refl _)
/-- a root more turns no visit -/
theorem vis_take {F : Nat} {s : PS} {R : Roles} (h : WFS F s R) (hc : 0 < s.left F) {root : Nat} (hr : R root = some (root, 3, 0)) : visT (s.take F).V 2 root 0 32 = visT s.V 2 root 0 32 := by
  obtain ⟨g, hn, _, _⟩ := new_grow h hc
  have hne : root ≠ s.top F := by intro e; rw [← e, hr] at hn; cases hn
  exact visT_same h hr fun t l i k ht hk => ent_congr hk fun a ha => g.keep t root (l + 1) i hne ht a ha
theorem cp_pre {F : Nat} (hF : F ≤ 256) {s0 : PS} {R0 : Roles} {root too : Nat} (b : CB F s0 R0 root too) : ∀ (pre post : List (Int × Nat)), visT s0.V 2 root 0 32 = pre ++ post → ∃ R', CI F s0 R0 root too pre (cpAll F too s0 pre) R' := by
  intro pre
  -- from the end of the list
  have key : ∀ n (pre post : List (Int × Nat)), pre.length = n → visT s0.V 2 root 0 32 = pre ++ post → ∃ R', CI F s0 R0 root too pre (cpAll F too s0 pre) R' := by
    intro n
    induction n with
    | zero =>
      intro pre post hl _
      have : pre = [] := List.eq_nil_of_length_eq_zero hl
      subst this
      exact ⟨R0, b.start⟩
    | succ n ih =>
      intro pre post hl h
      have hne : pre ≠ [] := by intro e; rw [e] at hl; cases hl
      have hd := List.dropLast_concat_getLast hne
      have hl2 : pre.dropLast.length = n := by rw [List.length_dropLast, hl]; rfl
      rw [← hd, List.append_assoc] at h
      obtain ⟨R1, c⟩ := ih pre.dropLast _ hl2 h
      obtain ⟨⟨R', c'⟩, _⟩ := cp_step hF b c h
      rw [← cpAll_next, hd] at c'
      exact ⟨R', c'⟩
  exact fun post h => key pre.length pre post rfl h
theorem filter_split {α : Type} (p : α → Bool) : ∀ (l : List α) (i : Nat) (hi : i < (l.filter p).length), ∃ pre post, l = pre ++ (l.filter p)[i] :: post ∧ pre.filter p = (l.filter p).take i
  | [], i, hi => by cases hi
  | x :: l, i, hi => by
    by_cases h : p x = true
    · have e : (x :: l).filter p = x :: l.filter p := List.filter_cons_of_pos h
      match i with
      | 0 => exact ⟨[], l, by simp only [e]; rfl, by rw [e]; rfl⟩
      | i + 1 =>
        have hi' : i < (l.filter p).length := by rw [e] at hi; simpa using hi
        obtain ⟨pre, post, h1, h2⟩ := filter_split p l i hi'
        refine ⟨x :: pre, post, ?_, ?_⟩
        · simp only [e, List.getElem_cons_succ, List.cons_append]
          rw [← h1]
        · rw [e, List.filter_cons_of_pos h, h2]; rfl
    · have e : (x :: l).filter p = l.filter p := List.filter_cons_of_neg h
      have hi' : i < (l.filter p).length := by rw [e] at hi; exact hi
      obtain ⟨pre, post, h1, h2⟩ := filter_split p l i hi'
      refine ⟨x :: pre, post, ?_, ?_⟩
      · simp only [e, List.cons_append]
        rw [← h1]
      · rw [e, List.filter_cons_of_neg h, h2]
/-- what is known where page i of the list is copied -/
structure CQ (F too : Nat) (s : PS) (v : Int × Nat) (page : Nat) (R : Roles) : Prop where
  wf : WFS F s R
  hto : R too = some (too, 3, 0)
  num : v.1 = (page : Int)
  cv : CV F s too page (v.2 % 32)
  fr : v.2 / 1024 < F
theorem copy_at {F : Nat} (hF : F ≤ 256) {s0 : PS} {R0 : Roles} {root too : Nat} (b : CB F s0 R0 root too) {L : List (Int × Nat)} (hL : L = pgV (visT s0.V 2 root 0 32)) (i : Nat) (hi : i < L.length) :
    ∃ page R, CQ F too (cpAll F too s0 (L.take i)) L[i] page R ∧ cpAll F too s0 (L.take (i + 1)) = cpS F too (cpAll F too s0 (L.take i)) page (L[i].2 % 32) (L[i].2 / 1024) := by
  subst hL
  obtain ⟨pre, post, h1, h2⟩ := filter_split (fun v : Int × Nat => decide (0 ≤ v.1)) (visT s0.V 2 root 0 32) i hi
  have hp : pgV pre = (pgV (visT s0.V 2 root 0 32)).take i := h2
  have hv : 0 ≤ ((pgV (visT s0.V 2 root 0 32))[i]).1 := by
    have hm : (pgV (visT s0.V 2 root 0 32))[i] ∈ pgV (visT s0.V 2 root 0 32) := List.getElem_mem _
    simpa using (List.mem_filter.1 hm).2
  have h1' : visT s0.V 2 root 0 32 = pre ++ (pgV (visT s0.V 2 root 0 32))[i] :: post := h1
  generalize hvv : (pgV (visT s0.V 2 root 0 32))[i] = v at *
  obtain ⟨R, c⟩ := cp_pre hF b pre _ h1'
  obtain ⟨_, hc⟩ := cp_step hF b c h1'
  rw [cpAll_pages F too pre s0, hp] at c hc
  rcases hc with hneg | ⟨page, e, hf, cv⟩
  · omega
  · refine ⟨page, R, ⟨c.grow.wf, c.grow.sub _ _ b.hto, e, cv, hf⟩, ?_⟩
    rw [take_next _ i hi, hvv, cpAll_next]
    exact (cpStep_page F too _ v page e).symm
end Go.Proofs.YtijooajhjcfneaaGreat

namespace Go.Proofs.YtijooajhjcfneaaGreat
open Go.RowKit

/-- what the calls for one page answer -/
structure QC (rq r F too page bt fr x y g ef : Nat) (s ms : PS) : Prop where
  ilt : page < 32768
  glt : g < 9223372036854775808
  hy : y = page * 256
  km : ∀ S W, RQ S W rq r F s.Fr s.V → Calls Tryz.prog 36 #[.pointer (some ⟨rq, 0, none⟩), .int .i64 too, .int .i64 page, .int .u64 bt] W (StepQ S W rq r F ms.Fr ms.V (.int .i64 0))
  kl : ∀ S W, RQ S W rq r F ms.Fr ms.V → Calls Tryz.prog 67 #[.pointer (some ⟨r, 0, none⟩), .int .i64 too, .int .u64 (y : Nat)] W (StepQ S W rq r F ms.Fr ms.V (.tuple #[.int .u64 (x : Nat), .int .i64 0]))
  ke : ∀ S W, RQ S W rq r F ms.Fr ms.V → Calls Tryz.prog 74 #[.pointer (some ⟨r, 0, none⟩), .int .u64 (x : Nat), .int .i64 8] W (StepQ S W rq r F ms.Fr ms.V (.tuple #[.int .u64 (ef : Nat), .int .i64 0]))
  kf1 : ∀ W, Calls Tryz.prog 69 #[.int .u64 (ef : Nat)] W fun r w' => r = .returned (.int .u64 (g : Nat)) ∧ W = w'
  kc : ∀ S W, RQ S W rq r F ms.Fr ms.V → Calls Tryz.prog 33 #[.pointer (some ⟨r, 0, none⟩), .int .i64 (g : Nat), .int .i64 (fr : Nat)] W (StepQ S W rq r F ms.Fr (cpV F ms.V (g : Int) (fr : Int)) (.int .i64 (cdC F (g : Int) (fr : Int))))
theorem qc_of {rq r F too page bt fr b g : Nat} {s ms : PS} {R : Roles} (hF : F ≤ 256) (hW : WFS F s R) (hr : R too = some (too, 3, 0)) (hbt : bt < 32) (ho : bt % 2 = 1) (hm : mapS F s too page bt = (ms, 0)) (cp : page < 32768) (hb : b < F) (cl : tbLeaf ms.V F too (page * 256) = some (b * 256 + 8 * pt page 0)) (clf : g = ent ms.V b (pt page 0) / 1024) (cll : g < F) :
    QC rq r F too page bt fr (b * 256 + 8 * pt page 0) (page * 256) g (ent ms.V b (pt page 0)) s ms := by
  have hto := hW.lt _ _ hr
  have h63 : F ≤ 9223372036854775808 := Nat.le_trans hF (by decide)
  have hlf := lfR_some hto cp cl
  have KF1 := fun W => rw_frame W _ (ent_lt ms.V b (pt page 0))
  rw [← clf] at KF1
  exact ⟨cp, Nat.lt_of_lt_of_le cll h63, rfl, fun S W H => q_map H hF hW too page bt hr cp hbt ho hm, fun S W H => hlf ▸ q_lf H hF (too : Int) (page * 256), fun S W H => q_load8 H hF (b * 256 + 8 * pt page 0) (Each1.fit8 hb (pt_lt _ _)) _ rfl, KF1, fun S W H => q_copyf H hF _ _ (Int.natCast_nonneg fr)⟩
theorem pair_of {p : PS × Int} {e : Int} (h : p.2 = e) : p = (p.1, e) := by
  subst h
  cases p
  rfl
theorem qc_at {rq r F too page bt fr : Nat} {s : PS} {R : Roles} (hF : F ≤ 256) (hW : WFS F s R) (hr : R too = some (too, 3, 0)) (cv : CV F s too page bt) {T : PS} (hT : cpS F too s page bt fr = T) : ∃ x y g ef ms, QC rq r F too page bt fr x y g ef s ms ∧ T = ⟨ms.Fr, cpV F ms.V (g : Int) (fr : Int)⟩ := by
  obtain ⟨cp, cb, cbl, ce, ⟨b, hb, cl, clf⟩, cll⟩ := cv
  rw [cpS_eq F too s _ page bt fr rfl] at hT
  have hm := pair_of ce
  generalize (mapS F s too page bt).1 = ms at *
  exact ⟨_, _, _, _, ms, qc_of hF hW hr cbl cb hm cp hb cl clf cll, hT.symm⟩
theorem pg256 (page : Nat) (h : page < 32768) : wrap64 (256 * (page : Int)) = 256 * (page : Int) ∧ IntKind.i64.wrap (256 * (page : Int)) = 256 * (page : Int) ∧ IntKind.u64.wrap (256 * (page : Int)) = ((page * 256 : Nat) : Int) := by
  refine ⟨?_, i64_wrap_eq rfl (by omega), ?_⟩
  · unfold wrap64; omega
  · rw [u64_wrap]; omega
theorem copy_room {l a b n : Nat} (hn : n = 1 + a + b) (h : a + b + 1 ≤ l) : decide ((l : Int) < (n : Int)) = false ∧ ¬ l < n := ⟨decide_eq_false (by omega), by omega⟩
theorem DocAt.drew {S : Nat → Prop} {w wr : World} {rq r F : Nat} {Fr : Nat → Bool} {U : Nat → Nat} {svl svt : Value} {L : List (Int × Nat)} {T : List Nat} (h : DocAt S w rq r F Fr U svl svt L T wr) : DocAt S w rq r F Fr U svl svt L T wr.drew := ⟨h.hl, h.ht, h.q.drew, h.chg.drew, h.dis⟩
theorem meas_succ (k L : Nat) (h : k < L) : L - (((k + 1 : Nat) : Int)).toNat < L - ((k : Int)).toNat := by
  rw [Int.toNat_natCast, Int.toNat_natCast]
  omega
theorem cnt_wraps (a b : Nat) (ha : a ≤ 40000) (hb : b ≤ 40000) : wrap64 (1 + (a : Int)) = 1 + (a : Int) ∧ IntKind.i64.wrap (1 + (a : Int)) = 1 + (a : Int) ∧ wrap64 (1 + (a : Int) + (b : Int)) = ((1 + a + b : Nat) : Int) ∧ IntKind.i64.wrap (1 + (a : Int) + (b : Int)) = ((1 + a + b : Nat) : Int) := by
  refine ⟨?_, i64_wrap_eq rfl (by omega), ?_, i64_wrap_eq (by omega) (by omega)⟩
  · unfold wrap64; omega
  · unfold wrap64; omega
end Go.Proofs.YtijooajhjcfneaaGreat

namespace Go.Proofs.YtijooajhjcfneaaGreat
open Go.RowKit

theorem Tryz.infoU8Q : (Tryz.prog.info? 5).map (fun i => (i.zero, i.size, i.bytes)) = some (some (.int .u8 0), 1, 1) := by kernel_rfl
/-- the numbers at these addresses -/
def inN (U : Nat → Nat) (xs : List Nat) : List Int := xs.map fun a => ((U a : Nat) : Int)
theorem memStr_one (V : Nat → Nat) (a : Nat) : memStr V a 1 = strOfNums [((V a : Nat) : Int)] := rfl
theorem inS_str (V : Nat → Nat) : ∀ xs : List Nat, strOfNums (inN V xs) = ⟨(inS V xs).toArray⟩
  | [] => rfl
  | x :: xs => by
    have h : inS V (x :: xs) = (memStr V x 1).data.toList ++ inS V xs := by unfold inS; rw [List.flatMap_cons]
    have h2 : inN V (x :: xs) = [((V x : Nat) : Int)] ++ inN V xs := rfl
    rw [h, h2, strOfNums_append, inS_str V xs, ← memStr_one]
    apply ByteArray.ext
    apply Array.ext'
    simp
/-- a row of bytes beside the document's pool -/
structure BQ (S : Nat → Prop) (w : World) (rq r F : Nat) (Fr : Nat → Bool) (U : Nat → Nat) (sv : Value) (xs : List Int) (wr : World) : Prop where
  own : wr.ownsRow w.heap.size 5 1 sv xs.length (xs.map (Value.int .u8))
  q : RQ (fun k => S k ∨ sv.ownBlock = some k) wr rq r F Fr U
  chg : Chg (fun k => ¬ S k) w wr
theorem BQ.start {S : Nat → Prop} {w : World} {rq r F : Nat} {Fr : Nat → Bool} {U : Nat → Nat} (h : RQ S w rq r F Fr U) : BQ S w rq r F Fr U (.slice none 0 0) [] w :=
  ⟨World.ownsRow_nil _ _ _ _, h.weak (fun k hk => by rcases hk with hk | hk; exact hk; cases hk), Chg.refl _ _⟩
theorem BQ.stepped {S : Nat → Prop} {w wr w' : World} {rq r F : Nat} {Fr Fr' : Nat → Bool} {U U' : Nat → Nat} {sv v : Value} {xs : List Int} {e : Ending} (h : BQ S w rq r F Fr U sv xs wr) (k : StepQ (fun k => S k ∨ sv.ownBlock = some k) wr rq r F Fr' U' v e w') : BQ S w rq r F Fr' U' sv xs w' :=
  ⟨ownsRow_chg h.own k.2.2 (fun k hk a => a (.inr hk)), k.2.1, h.chg.trans (k.2.2.mono (fun k a b => a (.inl b)))⟩
theorem BQ.add {S : Nat → Prop} {w wr w1 : World} {rq r F TT : Nat} {Fr : Nat → Bool} {U : Nat → Nat} {sv v' : Value} {c : Array Value} {xs : List Int} {x : Int} (h : BQ S w rq r F Fr U sv xs wr)
    (h1 : w1.ownsRow w.heap.size 5 1 v' (xs.length + 1) ((xs.map (Value.int .u8)) ++ [.int .u8 x])) (hg : (wr.alloc (.cells c TT)).grownBy w1 sv.ownBlock) (hat : v'.ownBlock = sv.ownBlock ∨ v'.ownBlock = some (wr.alloc (.cells c TT)).heap.size) :
    BQ S w rq r F Fr U v' (xs ++ [x]) w1 := by
  have hc : Chg (fun k => sv.ownBlock = some k) wr w1 := ((Chg.refl _ wr).alloc _).grown hg (fun k hk => .inl hk)
  have hz : (wr.alloc (.cells c TT)).heap.size = wr.heap.size + 1 := by simp
  refine ⟨?_, h.q.beside hc (fun k hk => .inr hk) (fun k hk => ?_) (fun k hk => ?_), h.chg.trans' hc (fun k hk => .inr (ownsRow_lt h.own k hk).1)⟩
  · rw [List.length_append, List.map_append]; exact h1
  · rcases hk with hk | hk
    · exact .inl (.inl hk)
    · rcases hat with e | e
      · exact .inl (.inr (e ▸ hk))
      · rw [e, hz] at hk
        cases hk
        exact .inr (by omega)
  · rcases hk with hk | hk
    · exact Nat.lt_of_lt_of_le (h.q.lt k (.inl hk)) hc.size
    · exact (ownsRow_lt h1 k hk).2
theorem RQ.bytes {S : Nat → Prop} {w : World} {rq r F : Nat} {Fr : Nat → Bool} {U : Nat → Nat} (h : RQ S w rq r F Fr U) : ∃ g, w.cell? ⟨r, 0, none⟩ = some (.slice (some ⟨g, 0, none⟩) (F * 256) (F * 256)) ∧ ∀ i, i < F * 256 → w.cell? ⟨g, i, none⟩ = some (.int .u8 (U i : Nat)) := by
  obtain ⟨hd, g, u, hu, hp, hn, hS⟩ := h
  exact ⟨g, hp.mem.blk.cellv 0 _ rfl, fun i hi => hp.mem.cellg i hi⟩
def InQ (U : Nat → Nat) (F root at_ j : Nat) (xs : List Int) : Prop := ∃ ys, adrs U F root at_ 1 j = some ys ∧ xs = inN U ys
theorem InQ_len {U : Nat → Nat} {F root at_ j : Nat} {xs : List Int} (h : InQ U F root at_ j xs) : xs.length = j := by
  obtain ⟨ys, h1, h2⟩ := h
  rw [h2]
  unfold inN
  rw [List.length_map, adrs_len j ys h1]
theorem in_km {xs : List Int} {j : Nat} (h : xs.length = j) (hj : j < 4097) : xs.length + 1 ≤ maxLen ∧ (xs.length + 1) * 1 ≤ 140737488355328 := by
  unfold maxLen
  omega
theorem ix_nums {a F : Nat} (h : a < F * 256) : (0 : Int) ≤ (a : Int) ∧ (a : Int) < ((F * 256 : Nat) : Int) ∧ (a : Int) < (F : Int) * 256 := by omega
end Go.Proofs.YtijooajhjcfneaaGreat

namespace Go.Proofs.YtijooajhjcfneaaGreat
open Go.RowKit

theorem bind_same {α β : Type} (o : Option α) (f g : α → Option β) (h : ∀ x, o = some x → f x = g x) : o.bind f = o.bind g := by
  cases o with
  | none => rfl
  | some x => exact h x rfl
/-- an address hangs on the tables alone -/
theorem tbLeaf_same {F : Nat} {s : PS} {V' : Nat → Nat} {R : Roles} (h : WFS F s R) {root : Nat} (hr : R root = some (root, 3, 0)) (hs : ∀ t l i k, R t = some (root, l + 1, i) → k < 32 → ent V' t k = ent s.V t k) (a : Nat) : tbLeaf V' F root a = tbLeaf s.V F root a := by
  have e3 : entV V' (root * 256 + 8 * (a / 262144 % 32)) = entV s.V (root * 256 + 8 * (a / 262144 % 32)) := hs root 2 0 _ hr (mod32_lt _)
  unfold tbLeaf
  rw [e3]
  refine bind_same _ _ _ fun x h1 => ?_
  obtain ⟨o1, d1⟩ := tbGo_some h1
  have k1 : kid s.V root (a / 262144 % 32) = some x := by rw [kid_of_odd (show ent s.V root (a / 262144 % 32) % 2 = 1 from o1)]; exact congrArg some d1
  have r1 := (h.kid hr (mod32_lt _) k1).1
  have e2 : entV V' (x * 256 + 8 * (a / 8192 % 32)) = entV s.V (x * 256 + 8 * (a / 8192 % 32)) := hs x 1 _ _ r1 (mod32_lt _)
  rw [e2]
theorem tbAt_same {F : Nat} {s : PS} {V' : Nat → Nat} {R : Roles} (h : WFS F s R) {root : Nat} (hr : R root = some (root, 3, 0)) (hs : ∀ t l i k, R t = some (root, l + 1, i) → k < 32 → ent V' t k = ent s.V t k) (a acc : Nat) : tbAt V' F root a acc = tbAt s.V F root a acc := by
  unfold tbAt
  by_cases c : 8388608 ≤ a
  · rw [if_pos c, if_pos c]
  · rw [if_neg c, if_neg c]
    unfold tbWalk
    rw [tbLeaf_same h hr hs]
    refine bind_same _ _ _ fun x hl => ?_
    obtain ⟨b, i, k, hk, hb, hx⟩ := leaf_role h hr hl
    have e : entV V' (b * 256 + 8 * k) = entV s.V (b * 256 + 8 * k) := hs b 0 i k hb hk
    rw [← hx] at e
    rw [e]
/-- while bytes are put, addresses stay -/
theorem out_at {F : Nat} {s : PS} {R : Roles} (h : WFS F s R) {root at_ n : Nat} (hr : R root = some (root, 3, 0)) {ys : List Nat} (hy : adrs s.V F root at_ 2 n = some ys) (b : ByteArray) (j : Nat) (hj : j ≤ n) (a acc : Nat) : tbAt (outV s.V ys b j) F root a acc = tbAt s.V F root a acc := by
  refine tbAt_same h hr (fun t l i k ht hk => ent_congr hk fun x hx => ?_) a acc
  refine outV_same j (by rw [adrs_len n ys hy]; exact hj) fun hm => ?_
  obtain ⟨i', e⟩ := adrs_role h hr n ys hy x hm
  rw [hx, ht] at e
  cases e
theorem RQ.byte {S : Nat → Prop} {w : World} {rq r F : Nat} {Fr : Nat → Bool} {U : Nat → Nat} (h : RQ S w rq r F Fr U) (a x : Nat) (ha : a < F * 256) (hx : x < 256) : ∃ g, w.cell? ⟨r, 0, none⟩ = some (.slice (some ⟨g, 0, none⟩) (F * 256) (F * 256)) ∧ w.cell? ⟨g, a, none⟩ = some (.int .u8 (U a : Nat)) ∧ w.frozen? ⟨g, a, none⟩ = false ∧
    RQ S (w.setCell ⟨g, a, none⟩ (.int .u8 x)) rq r F Fr (putV U a 1 (fun _ => x)) ∧ Chg (fun k => ¬ S k) w (w.setCell ⟨g, a, none⟩ (.int .u8 x)) := by
  obtain ⟨hd, g, u, hu, hp, hn, hS⟩ := h
  have hm := hp.mem
  have c : Chg (fun i => i = g) w (w.setCell ⟨g, a, none⟩ (.int .u8 x)) := (Chg.refl _ _).setCell _ _ (.inl rfl)
  have hm' : RM (w.setCell ⟨g, a, none⟩ (.int .u8 x)) r g F (putV U a 1 (fun _ => x)) u := by
    refine ⟨c.blk hm.blk hm.ne, (hm.row.set a x ha).congr fun i hi => ?_, hm.ne, putV_small hm.small (fun _ => hx)⟩
    unfold putV
    by_cases e : i = a
    · rw [if_pos e, if_pos (by omega)]
    · rw [if_neg e, if_neg (by omega)]
  have hk : RmK w r g F u (putV U a 1 (fun _ => x)) (.int .u64 0) (.returned (.int .u64 0)) (w.setCell ⟨g, a, none⟩ (.int .u8 x)) := ⟨rfl, hm', c.mono fun _ h => .inr h⟩
  obtain ⟨_, q1, q2⟩ := RQ.step hu hn hS (hp.worked hk)
  have fg : w.frozen? ⟨g, a, none⟩ = false := by obtain ⟨cs, hb, _, _⟩ := hm.row; exact hb.free _
  exact ⟨g, hm.blk.cellv 0 _ rfl, hm.cellg a ha, fg, q1, q2⟩
def OutQ (V : Nat → Nat) (F root at_ i : Nat) : Prop := ∃ xs, adrs V F root at_ 2 i = some xs
end Go.Proofs.YtijooajhjcfneaaGreat
