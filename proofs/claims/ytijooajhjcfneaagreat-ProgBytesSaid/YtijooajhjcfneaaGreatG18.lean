/-
  Several texts in one: RQMap, RQMap2, RQMap3.
-/
import Derived.Test.YtijooajhjcfneaaGreatG17
namespace Go.Proofs.YtijooajhjcfneaaGreat
open Go.RowKit

theorem map_nums (page a b c d : Nat) (hp : page < 32768) (ha : a = pt page 2) (hb : b = pt page 1) (hc : c = pt page 0) (hd : d = page / 32) :
    ((page : Int).tdiv 1024 = (a : Int) ∧ (page : Int) / 1024 = (a : Int) ∧ (page : Int).tdiv 32 = (d : Int) ∧ (page : Int) / 32 = (d : Int)) ∧ ((d : Int).tmod 32 = (b : Int) ∧ (d : Int) % 32 = (b : Int) ∧ (page : Int).tmod 32 = (c : Int) ∧ (page : Int) % 32 = (c : Int)) ∧
    (wrap64 (a : Int) = (a : Int) ∧ wrap64 (b : Int) = (b : Int) ∧ wrap64 (c : Int) = (c : Int) ∧ wrap64 (d : Int) = (d : Int)) ∧ (IntKind.i64.wrap (a : Int) = (a : Int) ∧ IntKind.i64.wrap (b : Int) = (b : Int) ∧ IntKind.i64.wrap (c : Int) = (c : Int) ∧ IntKind.i64.wrap (d : Int) = (d : Int)) := by
  unfold pt at ha hb hc
  rw [show 32 ^ 2 = 1024 from rfl] at ha
  rw [Nat.pow_one] at hb
  rw [Nat.pow_zero, Nat.div_one] at hc
  have e1 : (page : Int) / 1024 = (a : Int) := by omega
  have e2 : (page : Int) / 32 = (d : Int) := by omega
  have e3 : (d : Int) % 32 = (b : Int) := by omega
  have e4 : (page : Int) % 32 = (c : Int) := by omega
  refine ⟨⟨?_, e1, ?_, e2⟩, ⟨?_, e3, ?_, e4⟩, ⟨?_, ?_, ?_, ?_⟩, i64_wrap_eq rfl (by omega), i64_wrap_eq rfl (by omega), i64_wrap_eq rfl (by omega), i64_wrap_eq rfl (by omega)⟩
  · rw [Int.tdiv_eq_ediv_of_nonneg (by omega)]; exact e1
  · rw [Int.tdiv_eq_ediv_of_nonneg (by omega)]; exact e2
  · rw [Int.tmod_eq_emod_of_nonneg (by omega)]; exact e3
  · rw [Int.tmod_eq_emod_of_nonneg (by omega)]; exact e4
  all_goals (unfold wrap64; omega)
/-- what the calls of Map answer, whatever state they come to -/
structure QK (S : Nat → Prop) (rq r F : Nat) : Prop where
  left : ∀ (W : World) (s : PS), RQ S W rq r F s.Fr s.V → Calls Tryz.prog 17 #[.pointer (some ⟨rq, 0, none⟩)] W fun e w' => e = .returned (.int .i64 (s.left F : Nat)) ∧ W = w'
  take : ∀ (W : World) (s : PS), RQ S W rq r F s.Fr s.V → 0 < s.left F → Calls Tryz.prog 13 #[.pointer (some ⟨rq, 0, none⟩)] W (StepQ S W rq r F (s.take F).Fr (s.take F).V (.tuple #[.int .i64 (s.top F : Nat), .int .i64 0]))
  entry : ∀ (W : World) (f b : Nat), f < F → b < 1024 → Calls Tryz.prog 65 #[.int .i64 f, .int .u64 b] W fun e w' => e = .returned (.int .u64 (f * 1024 + b : Nat)) ∧ W = w'
  store : ∀ (W : World) (s : PS) (t k v : Nat), RQ S W rq r F s.Fr s.V → t < F → k < 32 → v < 18446744073709551616 → Calls Tryz.prog 64 #[.pointer (some ⟨r, 0, none⟩), .int .u64 (t * 256 + 8 * k : Nat), .int .i64 8, .int .u64 v] W (StepQ S W rq r F (s.put F t k v).Fr (s.put F t k v).V (.int .i64 0))
  cell : ∀ (W : World) (s : PS), RQ S W rq r F s.Fr s.V → W.cell? ⟨rq, 0, none⟩ = some (.pointer (some ⟨r, 0, none⟩))
theorem q_kit (S : Nat → Prop) (rq r F : Nat) (hF : F ≤ 256) : QK S rq r F :=
  ⟨fun _ _ h => q_left h hF, fun _ _ h hc => q_take h hF hc, fun W f b hf hb => re_entry W f b (by omega) hb _ _ rfl rfl, fun _ _ t k v h ht hk hv => q_store8 h hF (t * 256 + 8 * k) (Each1.fit8 ht hk) v hv _ _ rfl rfl, fun _ _ h => h.cell⟩
theorem top_lt {F : Nat} {s : PS} (h : 0 < s.left F) : s.top F < F := lst_lt h
theorem ent_fits {F f b : Nat} (hF : F ≤ 256) (hf : f < F) (hb : b < 1024) : f * 1024 + b < 18446744073709551616 := by omega
/-- a page that is there -/
theorem mapS_there {F : Nat} {s : PS} {root page bits t1 t2 g : Nat} (h1 : kid s.V root (pt page (1 + 1)) = some t1) (h2 : kid s.V t1 (pt page (0 + 1)) = some t2) (h3 : kid s.V t2 (pt page 0) = some g) : mapS F s root page bits = (s, 9) := by
  have d : deep s.V page (1 + 1) root = (0, t2) := by rw [deep_some h1, deep_some h2]; rfl
  have d' : deep s.V page 2 root = (0, t2) := d
  unfold mapS
  rw [d']
  rw [if_pos ⟨rfl, by rw [h3]; exact Option.some_ne_none _⟩]
theorem mapS_lev {F : Nat} {s : PS} {root page bits n t : Nat} (hd : deep s.V page 2 root = (n, t)) (hk : n = 0 → kid s.V t (pt page 0) = none) : mapS F s root page bits = if s.left F < n + 1 then (s, 4) else (mapGo F page bits s n t, 0) := by
  unfold mapS
  rw [hd]
  rw [if_neg (fun c => c.2 (hk c.1))]
theorem deep0 {V : Nat → Nat} {page root t1 t2 : Nat} (h1 : kid V root (pt page (1 + 1)) = some t1) (h2 : kid V t1 (pt page (0 + 1)) = some t2) : deep V page 2 root = (0, t2) := (deep_some (l := 0 + 1) h1).trans ((deep_some (l := 0) h2).trans rfl)
theorem deep1 {V : Nat → Nat} {page root t1 : Nat} (h1 : kid V root (pt page (1 + 1)) = some t1) (h2 : kid V t1 (pt page (0 + 1)) = none) : deep V page 2 root = (1, t1) := (deep_some (l := 0 + 1) h1).trans (deep_none (l := 0) h2)
theorem deep2 {V : Nat → Nat} {page root : Nat} (h1 : kid V root (pt page (1 + 1)) = none) : deep V page 2 root = (2, root) := deep_none (l := 0 + 1) h1
end Go.Proofs.YtijooajhjcfneaaGreat

namespace Go.Proofs.YtijooajhjcfneaaGreat
open Go.RowKit

/-- what the three calls of next answer, and the numbers -/
structure QN (S : Nat → Prop) (w : World) (rq r F : Nat) (s : PS) (root page a b c d : Nat) (x1 x2 x3 : Int) : Prop where
  nums : ((page : Int).tdiv 1024 = (a : Int) ∧ (page : Int) / 1024 = (a : Int) ∧ (page : Int).tdiv 32 = (d : Int) ∧ (page : Int) / 32 = (d : Int)) ∧ ((d : Int).tmod 32 = (b : Int) ∧ (d : Int) % 32 = (b : Int) ∧ (page : Int).tmod 32 = (c : Int) ∧ (page : Int) % 32 = (c : Int)) ∧
    (wrap64 (a : Int) = (a : Int) ∧ wrap64 (b : Int) = (b : Int) ∧ wrap64 (c : Int) = (c : Int) ∧ wrap64 (d : Int) = (d : Int)) ∧ (IntKind.i64.wrap (a : Int) = (a : Int) ∧ IntKind.i64.wrap (b : Int) = (b : Int) ∧ IntKind.i64.wrap (c : Int) = (c : Int) ∧ IntKind.i64.wrap (d : Int) = (d : Int))
  lt : a < 32 ∧ b < 32 ∧ c < 32
  n1 : ∀ W, RQ S W rq r F s.Fr s.V → Calls Tryz.prog 45 #[.pointer (some ⟨rq, 0, none⟩), .int .i64 root, .int .i64 a] W (StepQ S W rq r F s.Fr s.V (.int .i64 x1))
  n2 : ∀ W, RQ S W rq r F s.Fr s.V → Calls Tryz.prog 45 #[.pointer (some ⟨rq, 0, none⟩), .int .i64 x1, .int .i64 b] W (StepQ S W rq r F s.Fr s.V (.int .i64 x2))
  n3 : ∀ W, RQ S W rq r F s.Fr s.V → Calls Tryz.prog 45 #[.pointer (some ⟨rq, 0, none⟩), .int .i64 x2, .int .i64 c] W (StepQ S W rq r F s.Fr s.V (.int .i64 x3))
/-- the arguments are such that they may be -/
structure QA (S : Nat → Prop) (w : World) (rq r F : Nat) (s : PS) (root page bits : Nat) : Prop where
  hF : F ≤ 256
  tk : Calls Tryz.prog 63 #[.pointer (some ⟨rq, 0, none⟩), .int .i64 root] w fun e w' => e = .returned (.bool true) ∧ w = w'
  h : RQ S w rq r F s.Fr s.V
  page_lt : page < 32768
  bits_lt : bits < 32
  odd : bits % 2 = 1
  root_lt : root < F


set_option maxRecDepth 100000 in
set_option maxHeartbeats 3200000 in
theorem q_map_there {S : Nat → Prop} {w : World} {rq r F : Nat} {s : PS} {root page bits a b c d t1 t2 g : Nat} (A : QA S w rq r F s root page bits) (N : QN S w rq r F s root page a b c d (t1 : Int) (t2 : Int) (g : Int)) :
    Calls Tryz.prog 36 #[.pointer (some ⟨rq, 0, none⟩), .int .i64 root, .int .i64 page, .int .u64 bits] w (StepQ S w rq r F s.Fr s.V (.int .i64 9)) := by
  have KQ := Lib.hid (q_kit S rq r F A.hF)
  have AA := Lib.hid A
  have HN := Lib.hid N
  have d1 : decide ((page : Int) < (0 : Int)) = false := decide_eq_false (by omega)
  have d2 : decide ((32767 : Int) < (page : Int)) = false := decide_eq_false (by have := A.page_lt; omega)
  have d2' : ¬ 32767 < page := by have := A.page_lt; omega
  have d3 : decide ((31 : Int) < (bits : Int)) = false := decide_eq_false (by have := A.bits_lt; omega)
  have d3' : ¬ 31 < bits := by have := A.bits_lt; omega
  obtain ⟨r1, r2⟩ := rem_two bits 1 A.odd
  obtain ⟨⟨p1, p2, p3, p4⟩, ⟨p5, p6, p7, p8⟩, ⟨p9, p10, p11, p12⟩, ⟨p13, p14, p15, p16⟩⟩ := N.nums
  have y1 : decide ((0 : Int) ≤ (g : Int)) = true := decide_eq_true (by omega)
  clear A N
  go_enter Tryz.func36, Tryz.ntmps36
  go_wp2_with fail
  refine AA.out.tk.mono ?_
  rintro e w1 ⟨rfl, rfl⟩
  go_wp2_with fail
  refine (HN.out.n1 w AA.out.h).mono ?_
  rintro e w1 ⟨rfl, m, k⟩
  have M1 := Lib.hid m; have C1 := Lib.hid k; clear m k
  go_wp2_with fail
  refine (HN.out.n2 w1 M1.out).mono ?_
  rintro e w2 ⟨rfl, m, k⟩
  have M2 := Lib.hid m; have C2 := Lib.hid (C1.out.trans k); clear m k
  go_wp2_with fail
  refine (HN.out.n3 w2 M2.out).mono ?_
  rintro e w3 ⟨rfl, m, k⟩
  have M3 := Lib.hid m; have C3 := Lib.hid (C2.out.trans k); clear m k
  clear p1 p2 p3 p4 p5 p6 p7 p8 p9 p10 p11 p12 p13 p14 p15 p16 r1 r2 d1 d2 d2' d3 d3'
  go_wp2_with fail
  go_ret
  exact ⟨rfl, M3.out, C3.out⟩


set_option maxRecDepth 100000 in
set_option maxHeartbeats 3200000 in
theorem q_map_full0 {S : Nat → Prop} {w : World} {rq r F : Nat} {s : PS} {root page bits a b c d t1 t2 : Nat} (A : QA S w rq r F s root page bits) (N : QN S w rq r F s root page a b c d (t1 : Int) (t2 : Int) (-1)) (hc : s.left F < 1) :
    Calls Tryz.prog 36 #[.pointer (some ⟨rq, 0, none⟩), .int .i64 root, .int .i64 page, .int .u64 bits] w (StepQ S w rq r F s.Fr s.V (.int .i64 4)) := by
  have KQ := Lib.hid (q_kit S rq r F A.hF)
  have AA := Lib.hid A
  have HN := Lib.hid N
  have d1 : decide ((page : Int) < (0 : Int)) = false := decide_eq_false (by omega)
  have d2 : decide ((32767 : Int) < (page : Int)) = false := decide_eq_false (by have := A.page_lt; omega)
  have d2' : ¬ 32767 < page := by have := A.page_lt; omega
  have d3 : decide ((31 : Int) < (bits : Int)) = false := decide_eq_false (by have := A.bits_lt; omega)
  have d3' : ¬ 31 < bits := by have := A.bits_lt; omega
  obtain ⟨r1, r2⟩ := rem_two bits 1 A.odd
  obtain ⟨⟨p1, p2, p3, p4⟩, ⟨p5, p6, p7, p8⟩, ⟨p9, p10, p11, p12⟩, ⟨p13, p14, p15, p16⟩⟩ := N.nums
  have y1 : decide ((t1 : Int) < (0 : Int)) = false := decide_eq_false (by omega)
  have y1' : ¬ (t1 : Int) < 0 := by omega
  have y2 : decide ((t2 : Int) < (0 : Int)) = false := decide_eq_false (by omega)
  have y2' : ¬ (t2 : Int) < 0 := by omega
  have HL := Lib.hid hc
  obtain ⟨l, hl⟩ : ∃ l, l = s.left F := ⟨_, rfl⟩
  have y9 : decide ((l : Int) < (1 : Int)) = true := decide_eq_true (by omega)
  have y8 : l < 1 := by omega
  have HLL := Lib.hid hl
  clear hc hl
  clear A N
  go_enter Tryz.func36, Tryz.ntmps36
  go_wp2_with fail
  refine AA.out.tk.mono ?_
  rintro e w1 ⟨rfl, rfl⟩
  go_wp2_with fail
  refine (HN.out.n1 w AA.out.h).mono ?_
  rintro e w1 ⟨rfl, m, k⟩
  have M1 := Lib.hid m; have C1 := Lib.hid k; clear m k
  go_wp2_with fail
  refine (HN.out.n2 w1 M1.out).mono ?_
  rintro e w2 ⟨rfl, m, k⟩
  have M2 := Lib.hid m; have C2 := Lib.hid (C1.out.trans k); clear m k
  go_wp2_with fail
  refine (HN.out.n3 w2 M2.out).mono ?_
  rintro e w3 ⟨rfl, m, k⟩
  have M3 := Lib.hid m; have C3 := Lib.hid (C2.out.trans k); clear m k
  clear p1 p2 p3 p4 p5 p6 p7 p8 p9 p10 p11 p12 p13 p14 p15 p16 r1 r2 d1 d2 d2' d3 d3'
  go_wp2_with fail
  refine (KQ.out.left w3 s M3.out).mono ?_
  rw [← HLL.out]
  rintro e w' ⟨rfl, rfl⟩
  go_wp2_with fail
  go_ret
  exact ⟨rfl, M3.out, C3.out⟩


set_option maxRecDepth 100000 in
set_option maxHeartbeats 3200000 in
theorem q_map_room0 {S : Nat → Prop} {w : World} {rq r F : Nat} {s : PS} {root page bits a b c d t1 t2 : Nat} (A : QA S w rq r F s root page bits) (N : QN S w rq r F s root page a b c d (t1 : Int) (t2 : Int) (-1)) (hc : 1 ≤ s.left F) (ht : t2 < F) (ha : a = pt page 2) (hb : b = pt page 1) (hcc : c = pt page 0) {T : PS} (hT : mapGo F page bits s 0 t2 = T) :
    Calls Tryz.prog 36 #[.pointer (some ⟨rq, 0, none⟩), .int .i64 root, .int .i64 page, .int .u64 bits] w (StepQ S w rq r F T.Fr T.V (.int .i64 0)) := by
  have KQ := Lib.hid (q_kit S rq r F A.hF)
  have AA := Lib.hid A
  have HN := Lib.hid N
  have d1 : decide ((page : Int) < (0 : Int)) = false := decide_eq_false (by omega)
  have d2 : decide ((32767 : Int) < (page : Int)) = false := decide_eq_false (by have := A.page_lt; omega)
  have d2' : ¬ 32767 < page := by have := A.page_lt; omega
  have d3 : decide ((31 : Int) < (bits : Int)) = false := decide_eq_false (by have := A.bits_lt; omega)
  have d3' : ¬ 31 < bits := by have := A.bits_lt; omega
  obtain ⟨r1, r2⟩ := rem_two bits 1 A.odd
  obtain ⟨⟨p1, p2, p3, p4⟩, ⟨p5, p6, p7, p8⟩, ⟨p9, p10, p11, p12⟩, ⟨p13, p14, p15, p16⟩⟩ := N.nums
  have y1 : decide ((t1 : Int) < (0 : Int)) = false := decide_eq_false (by omega)
  have y1' : ¬ (t1 : Int) < 0 := by omega
  have y2 : decide ((t2 : Int) < (0 : Int)) = false := decide_eq_false (by omega)
  have y2' : ¬ (t2 : Int) < 0 := by omega
  obtain ⟨l, hl⟩ : ∃ l, l = s.left F := ⟨_, rfl⟩
  have y9 : decide ((l : Int) < (1 : Int)) = false := decide_eq_false (by omega)
  have y8 : ¬ l < 1 := by omega
  have HLL := Lib.hid hl
  have HLC := Lib.hid hc
  have HT := Lib.hid ht
  obtain ⟨la, lb, lc⟩ := N.lt
  obtain ⟨f0, hf0⟩ : ∃ f, f = (s).top F := ⟨_, rfl⟩
  have fl0 : f0 < F := hf0 ▸ lst_lt (show 0 < (s).left F from by omega)
  obtain ⟨s1, hs1⟩ : ∃ x, x = (s).add F t2 c bits := ⟨_, rfl⟩
  have ls1 : s1.left F + 1 = (s).left F := hs1 ▸ PS.left_add (show 0 < (s).left F from by omega) _ _ _
  have KT0 := fun (W : World) (H : RQ S W rq r F s.Fr s.V) => KQ.out.take W s H (by omega)
  rw [← hf0] at KT0
  obtain ⟨v0, hv0⟩ : ∃ v, v = f0 * 1024 + bits := ⟨_, rfl⟩
  have KE0 := fun (W : World) => KQ.out.entry W f0 bits fl0 (by have := A.bits_lt; omega)
  rw [← hv0] at KE0
  have hs0' : (PS.take F s).put F t2 c v0 = s1 := by rw [hs1, hv0, hf0]; rfl
  obtain ⟨x0, hx0⟩ : ∃ x, x = t2 * 256 + 8 * c := ⟨_, rfl⟩
  have hvl0 : v0 < 18446744073709551616 := hv0 ▸ ent_fits A.hF fl0 (by have := A.bits_lt; omega)
  have KS0 := fun (W : World) (H : RQ S W rq r F (PS.take F s).Fr (PS.take F s).V) => KQ.out.store W (PS.take F s) t2 c v0 H ht lc hvl0
  rw [← hx0, hs0'] at KS0
  have KT0 := Lib.hid KT0; have KE0 := Lib.hid KE0; have KS0 := Lib.hid KS0
  obtain ⟨n01, n02, n03, n04, n05, n06, n07⟩ := ld_wraps t2 c (Nat.lt_of_lt_of_le ht A.hF) lc
  rw [← hx0] at n07
  have g0 : decide ((f0 : Int) < (0 : Int)) = false := decide_eq_false (by omega)
  have hfin : s1 = T := by rw [← hT, mapGo_zero, hs1, hcc]
  clear hT
  subst hfin
  clear hl hc ht ha hb hcc la lb lc
  clear hs0' hvl0 hv0 hx0 hf0 fl0 hs1 ls1
  clear A N
  go_enter Tryz.func36, Tryz.ntmps36
  go_wp2_with fail
  refine AA.out.tk.mono ?_
  rintro e w1 ⟨rfl, rfl⟩
  go_wp2_with fail
  refine (HN.out.n1 w AA.out.h).mono ?_
  rintro e w1 ⟨rfl, m, k⟩
  have M1 := Lib.hid m; have C1 := Lib.hid k; clear m k
  go_wp2_with fail
  refine (HN.out.n2 w1 M1.out).mono ?_
  rintro e w2 ⟨rfl, m, k⟩
  have M2 := Lib.hid m; have C2 := Lib.hid (C1.out.trans k); clear m k
  go_wp2_with fail
  refine (HN.out.n3 w2 M2.out).mono ?_
  rintro e w3 ⟨rfl, m, k⟩
  have M3 := Lib.hid m; have C3 := Lib.hid (C2.out.trans k); clear m k
  clear p1 p2 p3 p4 p5 p6 p7 p8 p9 p10 p11 p12 p13 p14 p15 p16 r1 r2 d1 d2 d2' d3 d3'
  go_wp2_with fail
  refine (KQ.out.left w3 s M3.out).mono ?_
  rw [← HLL.out]
  rintro e w' ⟨rfl, rfl⟩
  go_wp2_with fail
  refine (KT0.out w3 M3.out).mono ?_
  rintro e w4 ⟨rfl, m, k⟩
  have M4 := Lib.hid m; have C4 := Lib.hid (C3.out.trans k); clear m k
  have cc := KQ.out.cell w4.drew (PS.take F s) M4.out.drew
  have KE1 := Lib.hid (KE0.out w4.drew)
  have KS1 := Lib.hid (KS0.out w4.drew M4.out.drew)
  go_wp2_with fail
  go_region_held3 (fun w' => w'.cell? ⟨rq, 0, none⟩ = some (.pointer (some ⟨r, 0, none⟩))) (first | assumption | exact cc | (simp [*]; done))
    (first
      | (go_at_call 65; refine KE1.out.mono ?_; rintro e v1 ⟨rfl, rfl⟩)
      | (go_at_call 64; refine KS1.out.mono ?_; rintro e v5 ⟨rfl, m9, b9⟩; have M5 := Lib.hid m9; have C5 := Lib.hid (C4.out.drew.trans b9); clear m9 b9; have cd := KQ.out.cell _ _ M5.out))
  clear cc KE1 KS1
  generalize v5 = w5 at *
  go_wp2_with fail
  go_ret
  exact ⟨rfl, M5.out, C5.out⟩


set_option maxRecDepth 100000 in
set_option maxHeartbeats 3200000 in
theorem q_map_full1 {S : Nat → Prop} {w : World} {rq r F : Nat} {s : PS} {root page bits a b c d t1 : Nat} (A : QA S w rq r F s root page bits) (N : QN S w rq r F s root page a b c d (t1 : Int) (-1) (-1)) (hc : s.left F < 2) :
    Calls Tryz.prog 36 #[.pointer (some ⟨rq, 0, none⟩), .int .i64 root, .int .i64 page, .int .u64 bits] w (StepQ S w rq r F s.Fr s.V (.int .i64 4)) := by
  have KQ := Lib.hid (q_kit S rq r F A.hF)
  have AA := Lib.hid A
  have HN := Lib.hid N
  have d1 : decide ((page : Int) < (0 : Int)) = false := decide_eq_false (by omega)
  have d2 : decide ((32767 : Int) < (page : Int)) = false := decide_eq_false (by have := A.page_lt; omega)
  have d2' : ¬ 32767 < page := by have := A.page_lt; omega
  have d3 : decide ((31 : Int) < (bits : Int)) = false := decide_eq_false (by have := A.bits_lt; omega)
  have d3' : ¬ 31 < bits := by have := A.bits_lt; omega
  obtain ⟨r1, r2⟩ := rem_two bits 1 A.odd
  obtain ⟨⟨p1, p2, p3, p4⟩, ⟨p5, p6, p7, p8⟩, ⟨p9, p10, p11, p12⟩, ⟨p13, p14, p15, p16⟩⟩ := N.nums
  have y1 : decide ((t1 : Int) < (0 : Int)) = false := decide_eq_false (by omega)
  have y1' : ¬ (t1 : Int) < 0 := by omega
  have HL := Lib.hid hc
  obtain ⟨l, hl⟩ : ∃ l, l = s.left F := ⟨_, rfl⟩
  have y9 : decide ((l : Int) < (2 : Int)) = true := decide_eq_true (by omega)
  have y8 : l < 2 := by omega
  have HLL := Lib.hid hl
  clear hc hl
  clear A N
  go_enter Tryz.func36, Tryz.ntmps36
  go_wp2_with fail
  refine AA.out.tk.mono ?_
  rintro e w1 ⟨rfl, rfl⟩
  go_wp2_with fail
  refine (HN.out.n1 w AA.out.h).mono ?_
  rintro e w1 ⟨rfl, m, k⟩
  have M1 := Lib.hid m; have C1 := Lib.hid k; clear m k
  go_wp2_with fail
  refine (HN.out.n2 w1 M1.out).mono ?_
  rintro e w2 ⟨rfl, m, k⟩
  have M2 := Lib.hid m; have C2 := Lib.hid (C1.out.trans k); clear m k
  go_wp2_with fail
  refine (HN.out.n3 w2 M2.out).mono ?_
  rintro e w3 ⟨rfl, m, k⟩
  have M3 := Lib.hid m; have C3 := Lib.hid (C2.out.trans k); clear m k
  clear p1 p2 p3 p4 p5 p6 p7 p8 p9 p10 p11 p12 p13 p14 p15 p16 r1 r2 d1 d2 d2' d3 d3'
  go_wp2_with fail
  refine (KQ.out.left w3 s M3.out).mono ?_
  rw [← HLL.out]
  rintro e w' ⟨rfl, rfl⟩
  go_wp2_with fail
  go_ret
  exact ⟨rfl, M3.out, C3.out⟩


set_option maxRecDepth 100000 in
set_option maxHeartbeats 3200000 in
theorem q_map_room1 {S : Nat → Prop} {w : World} {rq r F : Nat} {s : PS} {root page bits a b c d t1 : Nat} (A : QA S w rq r F s root page bits) (N : QN S w rq r F s root page a b c d (t1 : Int) (-1) (-1)) (hc : 2 ≤ s.left F) (ht : t1 < F) (ha : a = pt page 2) (hb : b = pt page 1) (hcc : c = pt page 0) {T : PS} (hT : mapGo F page bits s 1 t1 = T) :
    Calls Tryz.prog 36 #[.pointer (some ⟨rq, 0, none⟩), .int .i64 root, .int .i64 page, .int .u64 bits] w (StepQ S w rq r F T.Fr T.V (.int .i64 0)) := by
  have KQ := Lib.hid (q_kit S rq r F A.hF)
  have AA := Lib.hid A
  have HN := Lib.hid N
  have d1 : decide ((page : Int) < (0 : Int)) = false := decide_eq_false (by omega)
  have d2 : decide ((32767 : Int) < (page : Int)) = false := decide_eq_false (by have := A.page_lt; omega)
  have d2' : ¬ 32767 < page := by have := A.page_lt; omega
  have d3 : decide ((31 : Int) < (bits : Int)) = false := decide_eq_false (by have := A.bits_lt; omega)
  have d3' : ¬ 31 < bits := by have := A.bits_lt; omega
  obtain ⟨r1, r2⟩ := rem_two bits 1 A.odd
  obtain ⟨⟨p1, p2, p3, p4⟩, ⟨p5, p6, p7, p8⟩, ⟨p9, p10, p11, p12⟩, ⟨p13, p14, p15, p16⟩⟩ := N.nums
  have y1 : decide ((t1 : Int) < (0 : Int)) = false := decide_eq_false (by omega)
  have y1' : ¬ (t1 : Int) < 0 := by omega
  obtain ⟨l, hl⟩ : ∃ l, l = s.left F := ⟨_, rfl⟩
  have y9 : decide ((l : Int) < (2 : Int)) = false := decide_eq_false (by omega)
  have y8 : ¬ l < 2 := by omega
  have HLL := Lib.hid hl
  have HLC := Lib.hid hc
  have HT := Lib.hid ht
  obtain ⟨la, lb, lc⟩ := N.lt
  obtain ⟨f1, hf1⟩ : ∃ f, f = (s).top F := ⟨_, rfl⟩
  have fl1 : f1 < F := hf1 ▸ lst_lt (show 0 < (s).left F from by omega)
  obtain ⟨s1, hs1⟩ : ∃ x, x = (s).add F t1 b 1 := ⟨_, rfl⟩
  have ls1 : s1.left F + 1 = (s).left F := hs1 ▸ PS.left_add (show 0 < (s).left F from by omega) _ _ _
  obtain ⟨f0, hf0⟩ : ∃ f, f = (s1).top F := ⟨_, rfl⟩
  have fl0 : f0 < F := hf0 ▸ lst_lt (show 0 < (s1).left F from by omega)
  obtain ⟨s2, hs2⟩ : ∃ x, x = (s1).add F f1 c bits := ⟨_, rfl⟩
  have ls2 : s2.left F + 1 = (s1).left F := hs2 ▸ PS.left_add (show 0 < (s1).left F from by omega) _ _ _
  have KT1 := fun (W : World) (H : RQ S W rq r F s.Fr s.V) => KQ.out.take W s H (by omega)
  rw [← hf1] at KT1
  obtain ⟨v1, hv1⟩ : ∃ v, v = f1 * 1024 + 1 := ⟨_, rfl⟩
  have KE1 := fun (W : World) => KQ.out.entry W f1 1 fl1 (by omega)
  rw [← hv1] at KE1
  have hs1' : (PS.take F s).put F t1 b v1 = s1 := by rw [hs1, hv1, hf1]; rfl
  obtain ⟨x1, hx1⟩ : ∃ x, x = t1 * 256 + 8 * b := ⟨_, rfl⟩
  have hvl1 : v1 < 18446744073709551616 := hv1 ▸ ent_fits A.hF fl1 (by omega)
  have KS1 := fun (W : World) (H : RQ S W rq r F (PS.take F s).Fr (PS.take F s).V) => KQ.out.store W (PS.take F s) t1 b v1 H ht lb hvl1
  rw [← hx1, hs1'] at KS1
  have KT1 := Lib.hid KT1; have KE1 := Lib.hid KE1; have KS1 := Lib.hid KS1
  obtain ⟨n11, n12, n13, n14, n15, n16, n17⟩ := ld_wraps t1 b (Nat.lt_of_lt_of_le ht A.hF) lb
  rw [← hx1] at n17
  have g1 : decide ((f1 : Int) < (0 : Int)) = false := decide_eq_false (by omega)
  have KT0 := fun (W : World) (H : RQ S W rq r F s1.Fr s1.V) => KQ.out.take W s1 H (by omega)
  rw [← hf0] at KT0
  obtain ⟨v0, hv0⟩ : ∃ v, v = f0 * 1024 + bits := ⟨_, rfl⟩
  have KE0 := fun (W : World) => KQ.out.entry W f0 bits fl0 (by have := A.bits_lt; omega)
  rw [← hv0] at KE0
  have hs0' : (PS.take F s1).put F f1 c v0 = s2 := by rw [hs2, hv0, hf0]; rfl
  obtain ⟨x0, hx0⟩ : ∃ x, x = f1 * 256 + 8 * c := ⟨_, rfl⟩
  have hvl0 : v0 < 18446744073709551616 := hv0 ▸ ent_fits A.hF fl0 (by have := A.bits_lt; omega)
  have KS0 := fun (W : World) (H : RQ S W rq r F (PS.take F s1).Fr (PS.take F s1).V) => KQ.out.store W (PS.take F s1) f1 c v0 H fl1 lc hvl0
  rw [← hx0, hs0'] at KS0
  have KT0 := Lib.hid KT0; have KE0 := Lib.hid KE0; have KS0 := Lib.hid KS0
  obtain ⟨n01, n02, n03, n04, n05, n06, n07⟩ := ld_wraps f1 c (Nat.lt_of_lt_of_le fl1 A.hF) lc
  rw [← hx0] at n07
  have g0 : decide ((f0 : Int) < (0 : Int)) = false := decide_eq_false (by omega)
  have hT' : mapGo F page bits s (0 + 1) t1 = T := hT
  rw [mapGo_succ, mapGo_zero] at hT'
  have hfin : s2 = T := by rw [← hT', hs2, hs1, hf1, hb, hcc]
  clear hT' hT
  subst hfin
  clear hl hc ht ha hb hcc la lb lc
  clear hs1' hvl1 hv1 hx1 hf1 fl1 hs0' hvl0 hv0 hx0 hf0 fl0 hs1 ls1 hs2 ls2
  clear A N
  go_enter Tryz.func36, Tryz.ntmps36
  go_wp2_with fail
  refine AA.out.tk.mono ?_
  rintro e w1 ⟨rfl, rfl⟩
  go_wp2_with fail
  refine (HN.out.n1 w AA.out.h).mono ?_
  rintro e w1 ⟨rfl, m, k⟩
  have M1 := Lib.hid m; have C1 := Lib.hid k; clear m k
  go_wp2_with fail
  refine (HN.out.n2 w1 M1.out).mono ?_
  rintro e w2 ⟨rfl, m, k⟩
  have M2 := Lib.hid m; have C2 := Lib.hid (C1.out.trans k); clear m k
  go_wp2_with fail
  refine (HN.out.n3 w2 M2.out).mono ?_
  rintro e w3 ⟨rfl, m, k⟩
  have M3 := Lib.hid m; have C3 := Lib.hid (C2.out.trans k); clear m k
  clear p1 p2 p3 p4 p5 p6 p7 p8 p9 p10 p11 p12 p13 p14 p15 p16 r1 r2 d1 d2 d2' d3 d3'
  go_wp2_with fail
  refine (KQ.out.left w3 s M3.out).mono ?_
  rw [← HLL.out]
  rintro e w' ⟨rfl, rfl⟩
  go_wp2_with fail
  refine (KT1.out w3 M3.out).mono ?_
  rintro e w4 ⟨rfl, m, k⟩
  have M4 := Lib.hid m; have C4 := Lib.hid (C3.out.trans k); clear m k
  have cc := KQ.out.cell w4.drew (PS.take F s) M4.out.drew
  have KE1 := Lib.hid (KE1.out w4.drew)
  have KS1 := Lib.hid (KS1.out w4.drew M4.out.drew)
  go_wp2_with fail
  go_region_held3 (fun w' => w'.cell? ⟨rq, 0, none⟩ = some (.pointer (some ⟨r, 0, none⟩))) (first | assumption | exact cc | (simp [*]; done))
    (first
      | (go_at_call 65; refine KE1.out.mono ?_; rintro e v1 ⟨rfl, rfl⟩)
      | (go_at_call 64; refine KS1.out.mono ?_; rintro e v5 ⟨rfl, m9, b9⟩; have M5 := Lib.hid m9; have C5 := Lib.hid (C4.out.drew.trans b9); clear m9 b9; have cd := KQ.out.cell _ _ M5.out))
  clear cc KE1 KS1
  generalize v5 = w5 at *
  go_wp2_with fail
  refine (KT0.out w5 M5.out).mono ?_
  rintro e w6 ⟨rfl, m, k⟩
  have M6 := Lib.hid m; have C6 := Lib.hid (C5.out.trans k); clear m k
  have cc := KQ.out.cell w6.drew (PS.take F s1) M6.out.drew
  have KE1 := Lib.hid (KE0.out w6.drew)
  have KS1 := Lib.hid (KS0.out w6.drew M6.out.drew)
  go_wp2_with fail
  go_region_held3 (fun w' => w'.cell? ⟨rq, 0, none⟩ = some (.pointer (some ⟨r, 0, none⟩))) (first | assumption | exact cc | (simp [*]; done))
    (first
      | (go_at_call 65; refine KE1.out.mono ?_; rintro e v1 ⟨rfl, rfl⟩)
      | (go_at_call 64; refine KS1.out.mono ?_; rintro e v7 ⟨rfl, m9, b9⟩; have M7 := Lib.hid m9; have C7 := Lib.hid (C6.out.drew.trans b9); clear m9 b9; have cd := KQ.out.cell _ _ M7.out))
  clear cc KE1 KS1
  generalize v7 = w7 at *
  go_wp2_with fail
  go_ret
  exact ⟨rfl, M7.out, C7.out⟩


set_option maxRecDepth 100000 in
set_option maxHeartbeats 3200000 in
theorem q_map_full2 {S : Nat → Prop} {w : World} {rq r F : Nat} {s : PS} {root page bits a b c d : Nat} (A : QA S w rq r F s root page bits) (N : QN S w rq r F s root page a b c d (-1) (-1) (-1)) (hc : s.left F < 3) :
    Calls Tryz.prog 36 #[.pointer (some ⟨rq, 0, none⟩), .int .i64 root, .int .i64 page, .int .u64 bits] w (StepQ S w rq r F s.Fr s.V (.int .i64 4)) := by
  have KQ := Lib.hid (q_kit S rq r F A.hF)
  have AA := Lib.hid A
  have HN := Lib.hid N
  have d1 : decide ((page : Int) < (0 : Int)) = false := decide_eq_false (by omega)
  have d2 : decide ((32767 : Int) < (page : Int)) = false := decide_eq_false (by have := A.page_lt; omega)
  have d2' : ¬ 32767 < page := by have := A.page_lt; omega
  have d3 : decide ((31 : Int) < (bits : Int)) = false := decide_eq_false (by have := A.bits_lt; omega)
  have d3' : ¬ 31 < bits := by have := A.bits_lt; omega
  obtain ⟨r1, r2⟩ := rem_two bits 1 A.odd
  obtain ⟨⟨p1, p2, p3, p4⟩, ⟨p5, p6, p7, p8⟩, ⟨p9, p10, p11, p12⟩, ⟨p13, p14, p15, p16⟩⟩ := N.nums
  have HL := Lib.hid hc
  obtain ⟨l, hl⟩ : ∃ l, l = s.left F := ⟨_, rfl⟩
  have y9 : decide ((l : Int) < (3 : Int)) = true := decide_eq_true (by omega)
  have y8 : l < 3 := by omega
  have HLL := Lib.hid hl
  clear hc hl
  clear A N
  go_enter Tryz.func36, Tryz.ntmps36
  go_wp2_with fail
  refine AA.out.tk.mono ?_
  rintro e w1 ⟨rfl, rfl⟩
  go_wp2_with fail
  refine (HN.out.n1 w AA.out.h).mono ?_
  rintro e w1 ⟨rfl, m, k⟩
  have M1 := Lib.hid m; have C1 := Lib.hid k; clear m k
  go_wp2_with fail
  refine (HN.out.n2 w1 M1.out).mono ?_
  rintro e w2 ⟨rfl, m, k⟩
  have M2 := Lib.hid m; have C2 := Lib.hid (C1.out.trans k); clear m k
  go_wp2_with fail
  refine (HN.out.n3 w2 M2.out).mono ?_
  rintro e w3 ⟨rfl, m, k⟩
  have M3 := Lib.hid m; have C3 := Lib.hid (C2.out.trans k); clear m k
  clear p1 p2 p3 p4 p5 p6 p7 p8 p9 p10 p11 p12 p13 p14 p15 p16 r1 r2 d1 d2 d2' d3 d3'
  go_wp2_with fail
  refine (KQ.out.left w3 s M3.out).mono ?_
  rw [← HLL.out]
  rintro e w' ⟨rfl, rfl⟩
  go_wp2_with fail
  go_ret
  exact ⟨rfl, M3.out, C3.out⟩


set_option maxRecDepth 100000 in
set_option maxHeartbeats 3200000 in
theorem q_map_room2 {S : Nat → Prop} {w : World} {rq r F : Nat} {s : PS} {root page bits a b c d : Nat} (A : QA S w rq r F s root page bits) (N : QN S w rq r F s root page a b c d (-1) (-1) (-1)) (hc : 3 ≤ s.left F) (ht : True) (ha : a = pt page 2) (hb : b = pt page 1) (hcc : c = pt page 0) {T : PS} (hT : mapGo F page bits s 2 root = T) :
    Calls Tryz.prog 36 #[.pointer (some ⟨rq, 0, none⟩), .int .i64 root, .int .i64 page, .int .u64 bits] w (StepQ S w rq r F T.Fr T.V (.int .i64 0)) := by
  have KQ := Lib.hid (q_kit S rq r F A.hF)
  have AA := Lib.hid A
  have HN := Lib.hid N
  have d1 : decide ((page : Int) < (0 : Int)) = false := decide_eq_false (by omega)
  have d2 : decide ((32767 : Int) < (page : Int)) = false := decide_eq_false (by have := A.page_lt; omega)
  have d2' : ¬ 32767 < page := by have := A.page_lt; omega
  have d3 : decide ((31 : Int) < (bits : Int)) = false := decide_eq_false (by have := A.bits_lt; omega)
  have d3' : ¬ 31 < bits := by have := A.bits_lt; omega
  obtain ⟨r1, r2⟩ := rem_two bits 1 A.odd
  obtain ⟨⟨p1, p2, p3, p4⟩, ⟨p5, p6, p7, p8⟩, ⟨p9, p10, p11, p12⟩, ⟨p13, p14, p15, p16⟩⟩ := N.nums
  obtain ⟨l, hl⟩ : ∃ l, l = s.left F := ⟨_, rfl⟩
  have y9 : decide ((l : Int) < (3 : Int)) = false := decide_eq_false (by omega)
  have y8 : ¬ l < 3 := by omega
  have HLL := Lib.hid hl
  have HLC := Lib.hid hc
  have HT := Lib.hid ht
  obtain ⟨la, lb, lc⟩ := N.lt
  obtain ⟨f2, hf2⟩ : ∃ f, f = (s).top F := ⟨_, rfl⟩
  have fl2 : f2 < F := hf2 ▸ lst_lt (show 0 < (s).left F from by omega)
  obtain ⟨s1, hs1⟩ : ∃ x, x = (s).add F root a 1 := ⟨_, rfl⟩
  have ls1 : s1.left F + 1 = (s).left F := hs1 ▸ PS.left_add (show 0 < (s).left F from by omega) _ _ _
  obtain ⟨f1, hf1⟩ : ∃ f, f = (s1).top F := ⟨_, rfl⟩
  have fl1 : f1 < F := hf1 ▸ lst_lt (show 0 < (s1).left F from by omega)
  obtain ⟨s2, hs2⟩ : ∃ x, x = (s1).add F f2 b 1 := ⟨_, rfl⟩
  have ls2 : s2.left F + 1 = (s1).left F := hs2 ▸ PS.left_add (show 0 < (s1).left F from by omega) _ _ _
  obtain ⟨f0, hf0⟩ : ∃ f, f = (s2).top F := ⟨_, rfl⟩
  have fl0 : f0 < F := hf0 ▸ lst_lt (show 0 < (s2).left F from by omega)
  obtain ⟨s3, hs3⟩ : ∃ x, x = (s2).add F f1 c bits := ⟨_, rfl⟩
  have ls3 : s3.left F + 1 = (s2).left F := hs3 ▸ PS.left_add (show 0 < (s2).left F from by omega) _ _ _
  have KT2 := fun (W : World) (H : RQ S W rq r F s.Fr s.V) => KQ.out.take W s H (by omega)
  rw [← hf2] at KT2
  obtain ⟨v2, hv2⟩ : ∃ v, v = f2 * 1024 + 1 := ⟨_, rfl⟩
  have KE2 := fun (W : World) => KQ.out.entry W f2 1 fl2 (by omega)
  rw [← hv2] at KE2
  have hs2' : (PS.take F s).put F root a v2 = s1 := by rw [hs1, hv2, hf2]; rfl
  obtain ⟨x2, hx2⟩ : ∃ x, x = root * 256 + 8 * a := ⟨_, rfl⟩
  have hvl2 : v2 < 18446744073709551616 := hv2 ▸ ent_fits A.hF fl2 (by omega)
  have KS2 := fun (W : World) (H : RQ S W rq r F (PS.take F s).Fr (PS.take F s).V) => KQ.out.store W (PS.take F s) root a v2 H A.root_lt la hvl2
  rw [← hx2, hs2'] at KS2
  have KT2 := Lib.hid KT2; have KE2 := Lib.hid KE2; have KS2 := Lib.hid KS2
  obtain ⟨n21, n22, n23, n24, n25, n26, n27⟩ := ld_wraps root a (Nat.lt_of_lt_of_le A.root_lt A.hF) la
  rw [← hx2] at n27
  have g2 : decide ((f2 : Int) < (0 : Int)) = false := decide_eq_false (by omega)
  have KT1 := fun (W : World) (H : RQ S W rq r F s1.Fr s1.V) => KQ.out.take W s1 H (by omega)
  rw [← hf1] at KT1
  obtain ⟨v1, hv1⟩ : ∃ v, v = f1 * 1024 + 1 := ⟨_, rfl⟩
  have KE1 := fun (W : World) => KQ.out.entry W f1 1 fl1 (by omega)
  rw [← hv1] at KE1
  have hs1' : (PS.take F s1).put F f2 b v1 = s2 := by rw [hs2, hv1, hf1]; rfl
  obtain ⟨x1, hx1⟩ : ∃ x, x = f2 * 256 + 8 * b := ⟨_, rfl⟩
  have hvl1 : v1 < 18446744073709551616 := hv1 ▸ ent_fits A.hF fl1 (by omega)
  have KS1 := fun (W : World) (H : RQ S W rq r F (PS.take F s1).Fr (PS.take F s1).V) => KQ.out.store W (PS.take F s1) f2 b v1 H fl2 lb hvl1
  rw [← hx1, hs1'] at KS1
  have KT1 := Lib.hid KT1; have KE1 := Lib.hid KE1; have KS1 := Lib.hid KS1
  obtain ⟨n11, n12, n13, n14, n15, n16, n17⟩ := ld_wraps f2 b (Nat.lt_of_lt_of_le fl2 A.hF) lb
  rw [← hx1] at n17
  have g1 : decide ((f1 : Int) < (0 : Int)) = false := decide_eq_false (by omega)
  have KT0 := fun (W : World) (H : RQ S W rq r F s2.Fr s2.V) => KQ.out.take W s2 H (by omega)
  rw [← hf0] at KT0
  obtain ⟨v0, hv0⟩ : ∃ v, v = f0 * 1024 + bits := ⟨_, rfl⟩
  have KE0 := fun (W : World) => KQ.out.entry W f0 bits fl0 (by have := A.bits_lt; omega)
  rw [← hv0] at KE0
  have hs0' : (PS.take F s2).put F f1 c v0 = s3 := by rw [hs3, hv0, hf0]; rfl
  obtain ⟨x0, hx0⟩ : ∃ x, x = f1 * 256 + 8 * c := ⟨_, rfl⟩
  have hvl0 : v0 < 18446744073709551616 := hv0 ▸ ent_fits A.hF fl0 (by have := A.bits_lt; omega)
  have KS0 := fun (W : World) (H : RQ S W rq r F (PS.take F s2).Fr (PS.take F s2).V) => KQ.out.store W (PS.take F s2) f1 c v0 H fl1 lc hvl0
  rw [← hx0, hs0'] at KS0
  have KT0 := Lib.hid KT0; have KE0 := Lib.hid KE0; have KS0 := Lib.hid KS0
  obtain ⟨n01, n02, n03, n04, n05, n06, n07⟩ := ld_wraps f1 c (Nat.lt_of_lt_of_le fl1 A.hF) lc
  rw [← hx0] at n07
  have g0 : decide ((f0 : Int) < (0 : Int)) = false := decide_eq_false (by omega)
  have hT' : mapGo F page bits s (1 + 1) root = T := hT
  rw [mapGo_succ, mapGo_succ, mapGo_zero] at hT'
  have hfin : s3 = T := by rw [← hT', hs3, hs2, hf1, hf2, hs1, ha, hb, hcc]
  clear hT' hT
  subst hfin
  clear hl hc ht ha hb hcc la lb lc
  clear hs2' hvl2 hv2 hx2 hf2 fl2 hs1' hvl1 hv1 hx1 hf1 fl1 hs0' hvl0 hv0 hx0 hf0 fl0 hs1 ls1 hs2 ls2 hs3 ls3
  clear A N
  go_enter Tryz.func36, Tryz.ntmps36
  go_wp2_with fail
  refine AA.out.tk.mono ?_
  rintro e w1 ⟨rfl, rfl⟩
  go_wp2_with fail
  refine (HN.out.n1 w AA.out.h).mono ?_
  rintro e w1 ⟨rfl, m, k⟩
  have M1 := Lib.hid m; have C1 := Lib.hid k; clear m k
  go_wp2_with fail
  refine (HN.out.n2 w1 M1.out).mono ?_
  rintro e w2 ⟨rfl, m, k⟩
  have M2 := Lib.hid m; have C2 := Lib.hid (C1.out.trans k); clear m k
  go_wp2_with fail
  refine (HN.out.n3 w2 M2.out).mono ?_
  rintro e w3 ⟨rfl, m, k⟩
  have M3 := Lib.hid m; have C3 := Lib.hid (C2.out.trans k); clear m k
  clear p1 p2 p3 p4 p5 p6 p7 p8 p9 p10 p11 p12 p13 p14 p15 p16 r1 r2 d1 d2 d2' d3 d3'
  go_wp2_with fail
  refine (KQ.out.left w3 s M3.out).mono ?_
  rw [← HLL.out]
  rintro e w' ⟨rfl, rfl⟩
  go_wp2_with fail
  refine (KT2.out w3 M3.out).mono ?_
  rintro e w4 ⟨rfl, m, k⟩
  have M4 := Lib.hid m; have C4 := Lib.hid (C3.out.trans k); clear m k
  have cc := KQ.out.cell w4.drew (PS.take F s) M4.out.drew
  have KE1 := Lib.hid (KE2.out w4.drew)
  have KS1 := Lib.hid (KS2.out w4.drew M4.out.drew)
  go_wp2_with fail
  go_region_held3 (fun w' => w'.cell? ⟨rq, 0, none⟩ = some (.pointer (some ⟨r, 0, none⟩))) (first | assumption | exact cc | (simp [*]; done))
    (first
      | (go_at_call 65; refine KE1.out.mono ?_; rintro e v1 ⟨rfl, rfl⟩)
      | (go_at_call 64; refine KS1.out.mono ?_; rintro e v5 ⟨rfl, m9, b9⟩; have M5 := Lib.hid m9; have C5 := Lib.hid (C4.out.drew.trans b9); clear m9 b9; have cd := KQ.out.cell _ _ M5.out))
  clear cc KE1 KS1
  generalize v5 = w5 at *
  go_wp2_with fail
  refine (KT1.out w5 M5.out).mono ?_
  rintro e w6 ⟨rfl, m, k⟩
  have M6 := Lib.hid m; have C6 := Lib.hid (C5.out.trans k); clear m k
  have cc := KQ.out.cell w6.drew (PS.take F s1) M6.out.drew
  have KE1 := Lib.hid (KE1.out w6.drew)
  have KS1 := Lib.hid (KS1.out w6.drew M6.out.drew)
  go_wp2_with fail
  go_region_held3 (fun w' => w'.cell? ⟨rq, 0, none⟩ = some (.pointer (some ⟨r, 0, none⟩))) (first | assumption | exact cc | (simp [*]; done))
    (first
      | (go_at_call 65; refine KE1.out.mono ?_; rintro e v1 ⟨rfl, rfl⟩)
      | (go_at_call 64; refine KS1.out.mono ?_; rintro e v7 ⟨rfl, m9, b9⟩; have M7 := Lib.hid m9; have C7 := Lib.hid (C6.out.drew.trans b9); clear m9 b9; have cd := KQ.out.cell _ _ M7.out))
  clear cc KE1 KS1
  generalize v7 = w7 at *
  go_wp2_with fail
  refine (KT0.out w7 M7.out).mono ?_
  rintro e w8 ⟨rfl, m, k⟩
  have M8 := Lib.hid m; have C8 := Lib.hid (C7.out.trans k); clear m k
  have cc := KQ.out.cell w8.drew (PS.take F s2) M8.out.drew
  have KE1 := Lib.hid (KE0.out w8.drew)
  have KS1 := Lib.hid (KS0.out w8.drew M8.out.drew)
  go_wp2_with fail
  go_region_held3 (fun w' => w'.cell? ⟨rq, 0, none⟩ = some (.pointer (some ⟨r, 0, none⟩))) (first | assumption | exact cc | (simp [*]; done))
    (first
      | (go_at_call 65; refine KE1.out.mono ?_; rintro e v1 ⟨rfl, rfl⟩)
      | (go_at_call 64; refine KS1.out.mono ?_; rintro e v9 ⟨rfl, m9, b9⟩; have M9 := Lib.hid m9; have C9 := Lib.hid (C8.out.drew.trans b9); clear m9 b9; have cd := KQ.out.cell _ _ M9.out))
  clear cc KE1 KS1
  generalize v9 = w9 at *
  go_wp2_with fail
  go_ret
  exact ⟨rfl, M9.out, C9.out⟩

end Go.Proofs.YtijooajhjcfneaaGreat

namespace Go.Proofs.YtijooajhjcfneaaGreat
open Go.RowKit

theorem q_map {S : Nat → Prop} {w : World} {rq r F : Nat} {s : PS} {R : Roles} (h : RQ S w rq r F s.Fr s.V) (hF : F ≤ 256) (hW : WFS F s R) (root page bits : Nat) (hr : R root = some (root, 3, 0)) (hp : page < 32768) (hb : bits < 32) (hb1 : bits % 2 = 1) {T : PS} {e : Int} (hT : mapS F s root page bits = (T, e)) :
    Calls Tryz.prog 36 #[.pointer (some ⟨rq, 0, none⟩), .int .i64 root, .int .i64 page, .int .u64 bits] w (StepQ S w rq r F T.Fr T.V (.int .i64 e)) := by
  have hrF := hW.lt _ _ hr
  have KT := q_taken h hF root
  rw [hW.taken hr] at KT
  have A : QA S w rq r F s root page bits := ⟨hF, KT, h, hp, hb, hb1, hrF⟩
  have NM := map_nums page (pt page 2) (pt page 1) (pt page 0) (page / 32) hp rfl rfl rfl rfl
  have L2 := pt_lt page 2
  have L1 := pt_lt page 1
  have L0 := pt_lt page 0
  have N1 := fun W (H : RQ S W rq r F s.Fr s.V) => q_next H hF root (pt page 2) hrF L2
  have N3n := fun (k : Int) W (H : RQ S W rq r F s.Fr s.V) => show Calls Tryz.prog 45 #[.pointer (some ⟨rq, 0, none⟩), .int .i64 (-1), .int .i64 k] W (StepQ S W rq r F s.Fr s.V (.int .i64 (-1))) from (q_next_no W rq k).mono fun _ _ ⟨h1, h2⟩ => by subst h2; exact ⟨h1, H, Chg.refl _ _⟩
  rcases opt_cases (kid s.V root (pt page 2)) with h1 | ⟨t1, h1⟩
  · rw [h1] at N1
    have hd := deep2 (V := s.V) (page := page) (root := root) h1
    rw [mapS_lev hd (fun c => absurd c (by decide))] at hT
    have N : QN S w rq r F s root page (pt page 2) (pt page 1) (pt page 0) (page / 32) (-1) (-1) (-1) := ⟨NM, ⟨L2, L1, L0⟩, N1, N3n _, N3n _⟩
    by_cases c : s.left F < 2 + 1
    · rw [if_pos c] at hT
      obtain ⟨rfl, rfl⟩ := Prod.mk.inj hT
      exact q_map_full2 A N c
    · rw [if_neg c] at hT
      obtain ⟨hT2, rfl⟩ := Prod.mk.inj hT
      exact q_map_room2 A N (Nat.le_of_not_lt c) trivial rfl rfl rfl hT2
  · have k1 := (hW.kid hr L2 h1).1
    have f1 := hW.lt _ _ k1
    rw [h1] at N1
    have N2 := fun W (H : RQ S W rq r F s.Fr s.V) => q_next H hF t1 (pt page 1) f1 L1
    rcases opt_cases (kid s.V t1 (pt page 1)) with h2 | ⟨t2, h2⟩
    · rw [h2] at N2
      have hd := deep1 (V := s.V) (page := page) (root := root) h1 h2
      rw [mapS_lev hd (fun c => absurd c (by decide))] at hT
      have N : QN S w rq r F s root page (pt page 2) (pt page 1) (pt page 0) (page / 32) (t1 : Int) (-1) (-1) := ⟨NM, ⟨L2, L1, L0⟩, N1, N2, N3n _⟩
      by_cases c : s.left F < 1 + 1
      · rw [if_pos c] at hT
        obtain ⟨rfl, rfl⟩ := Prod.mk.inj hT
        exact q_map_full1 A N c
      · rw [if_neg c] at hT
        obtain ⟨hT2, rfl⟩ := Prod.mk.inj hT
        exact q_map_room1 A N (Nat.le_of_not_lt c) f1 rfl rfl rfl hT2
    · have k2 := (hW.kid k1 L1 h2).1
      have f2 := hW.lt _ _ k2
      rw [h2] at N2
      have N3 := fun W (H : RQ S W rq r F s.Fr s.V) => q_next H hF t2 (pt page 0) f2 L0
      rcases opt_cases (kid s.V t2 (pt page 0)) with h3 | ⟨g, h3⟩
      · rw [h3] at N3
        have hd := deep0 (V := s.V) (page := page) (root := root) h1 h2
        rw [mapS_lev hd (fun _ => h3)] at hT
        have N : QN S w rq r F s root page (pt page 2) (pt page 1) (pt page 0) (page / 32) (t1 : Int) (t2 : Int) (-1) := ⟨NM, ⟨L2, L1, L0⟩, N1, N2, N3⟩
        by_cases c : s.left F < 0 + 1
        · rw [if_pos c] at hT
          obtain ⟨rfl, rfl⟩ := Prod.mk.inj hT
          exact q_map_full0 A N c
        · rw [if_neg c] at hT
          obtain ⟨hT2, rfl⟩ := Prod.mk.inj hT
          exact q_map_room0 A N (Nat.le_of_not_lt c) f2 rfl rfl rfl hT2
      · rw [h3] at N3
        rw [mapS_there (page := page) h1 h2 h3] at hT
        obtain ⟨rfl, rfl⟩ := Prod.mk.inj hT
        exact q_map_there A (⟨NM, ⟨L2, L1, L0⟩, N1, N2, N3⟩ : QN S w rq r F s root page (pt page 2) (pt page 1) (pt page 0) (page / 32) (t1 : Int) (t2 : Int) (g : Int))
/-- arguments that may not be -/
theorem q_map_a (w : World) (rq : Nat) (root page bits : Int) (tk : Calls Tryz.prog 63 #[.pointer (some ⟨rq, 0, none⟩), .int .i64 root] w fun e w' => e = .returned (.bool false) ∧ w = w') :
    Calls Tryz.prog 36 #[.pointer (some ⟨rq, 0, none⟩), .int .i64 root, .int .i64 page, .int .u64 bits] w fun e w' => e = .returned (.int .i64 1) ∧ w = w' := by
  have tk := Lib.hid tk
  go_enter Tryz.func36, Tryz.ntmps36
  go_wp2_with fail
  refine tk.out.mono ?_
  rintro e w1 ⟨rfl, rfl⟩
  go_wp2_with fail
  go_ret
  exact ⟨rfl, rfl⟩
theorem q_map_b (w : World) (rq : Nat) (root page : Int) (bits : Nat) (hc : page < 0 ∨ (0 ≤ page ∧ 32768 ≤ page) ∨ (0 ≤ page ∧ page < 32768 ∧ bits % 2 = 0) ∨ (0 ≤ page ∧ page < 32768 ∧ bits % 2 = 1 ∧ 31 < bits)) (tk : Calls Tryz.prog 63 #[.pointer (some ⟨rq, 0, none⟩), .int .i64 root] w fun e w' => e = .returned (.bool true) ∧ w = w') :
    Calls Tryz.prog 36 #[.pointer (some ⟨rq, 0, none⟩), .int .i64 root, .int .i64 page, .int .u64 bits] w fun e w' => e = .returned (.int .i64 1) ∧ w = w' := by
  have tk := Lib.hid tk
  rcases hc with h | ⟨h, h1⟩ | ⟨h, h1, h2⟩ | ⟨h, h1, h2, h3⟩
  · have d1 : decide (page < (0 : Int)) = true := decide_eq_true h
    go_enter Tryz.func36, Tryz.ntmps36
    go_wp2_with fail
    refine tk.out.mono ?_
    rintro e w1 ⟨rfl, rfl⟩
    go_wp2_with fail
    go_ret
    exact ⟨rfl, rfl⟩
  · have d1 : decide (page < (0 : Int)) = false := decide_eq_false (by omega)
    have d2 : decide ((32767 : Int) < page) = true := decide_eq_true (by omega)
    have d2' : (32767 : Int) < page := by omega
    go_enter Tryz.func36, Tryz.ntmps36
    go_wp2_with fail
    refine tk.out.mono ?_
    rintro e w1 ⟨rfl, rfl⟩
    go_wp2_with fail
    go_ret
    exact ⟨rfl, rfl⟩
  · have d1 : decide (page < (0 : Int)) = false := decide_eq_false (by omega)
    have d2 : decide ((32767 : Int) < page) = false := decide_eq_false (by omega)
    have d2' : ¬ (32767 : Int) < page := by omega
    obtain ⟨r1, r2⟩ := rem_two bits 0 h2
    clear h h1 h2
    go_enter Tryz.func36, Tryz.ntmps36
    go_wp2_with fail
    refine tk.out.mono ?_
    rintro e w1 ⟨rfl, rfl⟩
    go_wp2_with fail
    go_ret
    exact ⟨rfl, rfl⟩
  · have d1 : decide (page < (0 : Int)) = false := decide_eq_false (by omega)
    have d2 : decide ((32767 : Int) < page) = false := decide_eq_false (by omega)
    have d2' : ¬ (32767 : Int) < page := by omega
    obtain ⟨r1, r2⟩ := rem_two bits 1 h2
    have d3 : decide ((31 : Int) < (bits : Int)) = true := decide_eq_true (by omega)
    clear h h1 h2
    go_enter Tryz.func36, Tryz.ntmps36
    go_wp2_with fail
    refine tk.out.mono ?_
    rintro e w1 ⟨rfl, rfl⟩
    go_wp2_with fail
    go_ret
    exact ⟨rfl, rfl⟩
theorem StepQ.same {S : Nat → Prop} {w : World} {rq r F : Nat} {Fr : Nat → Bool} {U : Nat → Nat} {P : Program} {f : FuncId} {args : Array Value} {v : Value} (h : RQ S w rq r F Fr U) (c : Calls P f args w fun e w' => e = .returned v ∧ w = w') : Calls P f args w (StepQ S w rq r F Fr U v) :=
  c.mono fun _ _ ⟨h1, h2⟩ => by subst h2; exact ⟨h1, h, Chg.refl _ _⟩
theorem q_map_any {S : Nat → Prop} {w : World} {rq r F : Nat} {s : PS} {R : Roles} (h : RQ S w rq r F s.Fr s.V) (hF : F ≤ 256) (hW : WFS F s R) (root : Nat) (page : Int) (bits : Nat) (hr : R root = some (root, 3, 0)) {T : PS} {e : Int} (hT : mapR F s root page bits = (T, e)) :
    Calls Tryz.prog 36 #[.pointer (some ⟨rq, 0, none⟩), .int .i64 root, .int .i64 page, .int .u64 bits] w (StepQ S w rq r F T.Fr T.V (.int .i64 e)) := by
  unfold mapR at hT
  by_cases c : page < 0 ∨ 32768 ≤ page ∨ bits % 2 = 0 ∨ 31 < bits
  · rw [if_pos c] at hT
    obtain ⟨rfl, rfl⟩ := Prod.mk.inj hT
    have KT := q_taken h hF root
    rw [hW.taken hr] at KT
    exact StepQ.same h (q_map_b w rq root page bits (by omega) KT)
  · rw [if_neg c] at hT
    obtain ⟨n, rfl⟩ := Int.eq_ofNat_of_zero_le (show 0 ≤ page by omega)
    rw [Int.toNat_natCast] at hT
    exact q_map h hF hW root n bits hr (by omega) (by omega) (by omega) hT
theorem q_map_bad {S : Nat → Prop} {w : World} {rq r F : Nat} {Fr : Nat → Bool} {U : Nat → Nat} (h : RQ S w rq r F Fr U) (hF : F ≤ 256) (root page bits : Int) (ht : (decide (((0 : Nat) : Int) ≤ root ∧ root < (F : Int)) && !Fr root.toNat) = false) :
    Calls Tryz.prog 36 #[.pointer (some ⟨rq, 0, none⟩), .int .i64 root, .int .i64 page, .int .u64 bits] w (StepQ S w rq r F Fr U (.int .i64 1)) := by
  have KT := q_taken h hF root
  rw [ht] at KT
  exact StepQ.same h (q_map_a w rq root page bits KT)
end Go.Proofs.YtijooajhjcfneaaGreat
