/-
  Several texts in one: SpEach1, SpFree, SpFree2, SpNew, SpOut, SpOut2.
-/
import Derived.Test.YtijooajhjcfneaaGreatG7
import Derived.Laws.EntriesVeiled
import Derived.Maps.AppendAt
namespace Go.Proofs.YtijooajhjcfneaaGreat.Each1
open Go.RowKit

/-- what is kept, visit by visit -/
structure EachI (V : Nat → Nat) (R : Roles) (q p F root : Nat) (fd : FuncId) (c1 : Nat) (all : List (Int × Nat)) (Inv : (Nat → Prop) → List (Int × Nat) → World → Prop) : Prop where
  pl : ∀ S pre w, Inv S pre w → ∃ (S' : Nat → Prop) (Fr' : Nat → Bool) (V' : Nat → Nat), (∀ k, S k → S' k) ∧ Pl S' w q p F 0 Fr' V' ∧ (∀ t l i k, R t = some (root, l + 1, i) → t ∉ frs pre → k < 32 → ent V' t k = ent V t k) ∧ ∀ w', Pl S' w' q p F 0 Fr' V' → Chg (fun k => ¬ S' k) w w' → Inv S pre w'
  still : ∀ S S' pre w w', Inv S pre w → Chg (fun _ => False) w w' → (∀ k, S' k → S k ∨ w.heap.size ≤ k) → (∀ k, S' k → k < w'.heap.size) → Inv S' pre w'
  act : ∀ S pre v post w, all = pre ++ v :: post → Inv S pre w → Calls Tryz.prog fd #[.int .i64 v.1, .int .u64 (v.2 : Nat), .pointer (some ⟨c1, 0, none⟩)] w fun e w' => e = .returned (.tuple #[]) ∧ Inv S (pre ++ [v]) w' ∧ Chg (fun k => ¬ S k) w w'
  nodup : (frs all).Nodup
  enter : ∀ (a b : Value) (w : World), (callFunc fd #[a, b, .pointer (some ⟨c1, 0, none⟩)]).run Tryz.prog w = .ok (.enter fd #[a, b, .pointer (some ⟨c1, 0, none⟩)]) w
  bound : ∀ S pre w, Inv S pre w → ∀ k, S k → k < w.heap.size

abbrev downV (bp bd bn : Nat) : Value := .func (.func 79) #[] #[.pointer (some ⟨bp, 0, none⟩), .pointer (some ⟨bd, 0, none⟩), .pointer (some ⟨bn, 0, none⟩)]
/-- the three variables that the closure reads -/
def Boxes (w : World) (q bp bd bn : Nat) (fd : FuncId) (c1 : Nat) : Prop :=
  w.cell? ⟨bp, 0, none⟩ = some (.pointer (some ⟨q, 0, none⟩)) ∧ w.cell? ⟨bd, 0, none⟩ = some (.func (.func fd) #[] #[.pointer (some ⟨c1, 0, none⟩)]) ∧ w.cell? ⟨bn, 0, none⟩ = some (downV bp bd bn)
theorem Boxes.chg {S : Nat → Prop} {w w' : World} {q bp bd bn : Nat} {fd : FuncId} {c1 : Nat} (h : Boxes w q bp bd bn fd c1) (c : Chg (fun k => ¬ S k) w w') (h1 : S bp) (h2 : S bd) (h3 : S bn) (hlt : ∀ k, S k → k < w.heap.size) : Boxes w' q bp bd bn fd c1 :=
  ⟨(c.cell (hlt _ h1) (fun a => a h1)).trans h.1, (c.cell (hlt _ h2) (fun a => a h2)).trans h.2.1, (c.cell (hlt _ h3) (fun a => a h3)).trans h.2.2⟩

def DownPost (S : Nat → Prop) (w : World) (Inv : (Nat → Prop) → List (Int × Nat) → World → Prop) (done : List (Int × Nat)) (e : Ending) (w' : World) : Prop := e = .returned (.tuple #[]) ∧ Inv S done w' ∧ Chg (fun k => ¬ S k) w w'

theorem fit8 {t F k : Nat} (h : t < F) (hk : k < 32) : t * 256 + 8 * k + 8 ≤ F * 256 := by omega
theorem each_wraps (first k : Nat) (hf : first < 32768) (hk : k < 32) : wrap64 ((first : Int) * 32) = (first : Int) * 32 ∧ wrap64 ((first : Int) * 32 + (k : Int)) = ((first * 32 + k : Nat) : Int) ∧ IntKind.i64.wrap ((first : Int) * 32) = (first : Int) * 32 ∧ IntKind.i64.wrap ((first : Int) * 32 + (k : Int)) = ((first * 32 + k : Nat) : Int) ∧ ((first * 32 + k : Nat) : Int) = (first : Int) * 32 + (k : Int) := by
  refine ⟨?_, ?_, i64_wrap_eq rfl (by omega), i64_wrap_eq (by omega) (by omega), by omega⟩
  · unfold wrap64; omega
  · unfold wrap64; omega

set_option maxRecDepth 100000 in
set_option maxHeartbeats 1600000 in
theorem down_page {V : Nat → Nat} {R : Roles} {q p F root : Nat} {fd : FuncId} {c1 : Nat} {all : List (Int × Nat)} {Inv : (Nat → Prop) → List (Int × Nat) → World → Prop} (E : EachI V R q p F root fd c1 all Inv) (hF : F ≤ 256)
    (S : Nat → Prop) (w : World) (bp bd bn : Nat) (hb : Boxes w q bp bd bn fd c1) (h1 : S bp) (h2 : S bd) (h3 : S bn) (pre post : List (Int × Nat)) (hI : Inv S pre w) (t first : Nat) (ht : R t = some (root, 0 + 1, first)) (htF : t < F) (hfi : first < 32768) (hall : all = pre ++ visT V 0 t first 32 ++ post) (hnt : t ∉ frs (pre ++ visT V 0 t first 32)) :
    Calls Tryz.prog 79 #[.int .u64 t, .int .i64 0, .int .i64 first, .pointer (some ⟨bp, 0, none⟩), .pointer (some ⟨bd, 0, none⟩), .pointer (some ⟨bn, 0, none⟩)] w (DownPost S w Inv (pre ++ visT V 0 t first 32)) := by
  have HB := Lib.hid hb
  have hcf := E.enter
  have H0 := Lib.hid (show Inv S (pre ++ visT V 0 t first 0) w ∧ Chg (fun k => ¬ S k) w w from ⟨by rw [visT_zero, List.append_nil]; exact hI, Chg.refl _ _⟩)
  have HLT := Lib.hid (E.bound S pre w hI)
  have HN := Lib.hid (And.intro ht (And.intro htF (And.intro hfi (And.intro hall (And.intro hnt hF)))))
  clear hb hI ht htF hfi hall hnt hF
  go_enter Tryz.func79, Tryz.ntmps79
  go_wp2_with fail
  go_loopw [13] (fun i wr => ∃ k : Nat, k ≤ 32 ∧ i = .int .i64 k ∧ Hid (Inv S (pre ++ visT V 0 t first k) wr ∧ Chg (fun k => ¬ S k) w wr)) (fun i _ => 32 - (intOf i).toNat)
  case atStart => exact ⟨0, Nat.zero_le _, rfl, H0⟩
  case round =>
    obtain ⟨k, hk, rfl, HK⟩ := hrel
    by_cases hlt : k < 32
    · have k0 : decide ((k : Int) < 32) = true := decide_eq_true (by omega)
      obtain ⟨S', Fr', V', hss, hP, hent, hback⟩ := E.pl _ _ _ HK.out.1
      obtain ⟨b1, b2, b3⟩ := HB.out.chg HK.out.2 h1 h2 h3 HLT.out
      obtain ⟨rest, hrest⟩ := visT_split V 0 t first k 32 hk
      have hnt : t ∉ frs (pre ++ visT V 0 t first k) := fun hm => HN.out.2.2.2.2.1 (by
        rw [hrest, ← List.append_assoc]
        show t ∈ List.map _ _
        rw [List.map_append]
        exact List.mem_append_left _ hm)
      have he := hent t 0 first k HN.out.1 hnt hlt
      have KM := f_mem hP
      have KA := sp_at wr t k (Nat.lt_of_lt_of_le HN.out.2.1 HN.out.2.2.2.2.2) hlt (t : Int) (k : Int) rfl rfl
      have KL := f_load8 hP HN.out.2.2.2.2.2 (t * 256 + 8 * k) (fit8 HN.out.2.1 hlt) _ rfl
      rw [show entV V' (t * 256 + 8 * k) = ent V t k from he] at KL
      have hyl := ent_lt V t k
      have VS := Lib.hid (visT_succ V 0 t first k)
      have VN := Lib.hid (fun h => visE_no (V := V) (l := 0) (t := t) (first := first) (k := k) h)
      have VP := Lib.hid (fun h => visE_page (V := V) (t := t) (first := first) (k := k) h)
      have VR := Lib.hid hrest
      obtain ⟨y, hy⟩ : ∃ y, y = ent V t k := ⟨_, rfl⟩
      rw [← hy] at KL hyl VN VP
      have hbit := and_one y hyl
      obtain ⟨a, ha⟩ : ∃ a, a = t * 256 + 8 * k := ⟨_, rfl⟩
      rw [← ha] at KL KA
      obtain ⟨n1, n2, n3, n4, n5⟩ := each_wraps first k HN.out.2.2.1 hlt
      have KM := Lib.hid KM; have KA := Lib.hid KA; have KL := Lib.hid KL; have HBK := Lib.hid hback; have HSS := Lib.hid hss
      clear hP hent hback hss hnt he hy ha hyl hrest
      by_cases e1 : y % 2 = 0
      · rw [e1] at hbit
        have HV := Lib.hid (VN.out e1)
        clear e1
        go_wp2_with fail
        refine KM.out.mono ?_
        rintro e w' ⟨rfl, rfl⟩
        go_wp2_with fail
        refine KA.out.mono ?_
        rintro e w' ⟨rfl, rfl⟩
        go_wp2_with fail
        refine KL.out.mono ?_
        rintro e w3 ⟨rfl, m3, c3⟩
        have M3 := Lib.hid (And.intro (HBK.out w3 m3 c3) (HK.out.2.trans (c3.mono (fun k a b => a (HSS.out k b))))); clear m3 c3
        go_wp2_with fail
        go_roundw
        case rel => exact ⟨k + 1, by omega, by go_num, by rw [VS.out, HV.out, List.append_nil]; exact M3.out⟩
        case measure => simp [intOf]; omega
      · have e1' : y % 2 = 1 := by omega
        rw [e1'] at hbit
        have HV := Lib.hid (VP.out e1')
        obtain ⟨rest1, hrest1⟩ := visT_split V 0 t first (k + 1) 32 (by omega)
        have hall : all = (pre ++ visT V 0 t first k) ++ (((first * 32 + k : Nat) : Int), y) :: (rest1 ++ post) := by
          rw [HN.out.2.2.2.1, hrest1, VS.out, HV.out]
          simp [List.append_assoc]
        have KD := fun W (H : Inv S (pre ++ visT V 0 t first k) W) => Lib.hid (E.act S _ _ _ W hall H)
        rw [n5] at KD n2 n4
        have KD := Lib.hid KD
        clear e1 e1' hall n5 hrest1
        go_wp2_with fail
        refine KM.out.mono ?_
        rintro e w' ⟨rfl, rfl⟩
        go_wp2_with fail
        refine KA.out.mono ?_
        rintro e w' ⟨rfl, rfl⟩
        go_wp2_with fail
        refine KL.out.mono ?_
        rintro e w3 ⟨rfl, m3, c3⟩
        have M3 := Lib.hid (And.intro (HBK.out w3 m3 c3) (HK.out.2.trans (c3.mono (fun k a b => a (HSS.out k b))))); clear m3 c3
        obtain ⟨b1, b2, b3⟩ := HB.out.chg M3.out.2 h1 h2 h3 HLT.out
        go_wp2_with fail
        refine (KD.out w3 M3.out.1).out.mono ?_
        rintro e w4 ⟨rfl, i4, c4⟩
        have M4 := Lib.hid (And.intro i4 (M3.out.2.trans c4)); clear i4 c4
        go_wp2_with fail
        go_roundw
        case rel => exact ⟨k + 1, by omega, by go_num, by rw [VS.out, HV.out, ← List.append_assoc]; exact M4.out⟩
        case measure => simp [intOf]; omega
    · obtain rfl : k = 32 := by omega
      have k0 : decide (((32 : Nat) : Int) < 32) = false := by decide
      clear hlt
      go_wp2_with fail
      go_end0
      exact ⟨rfl, HK.out⟩

set_option maxRecDepth 100000 in
set_option maxHeartbeats 1600000 in
theorem down_table {V : Nat → Nat} {R : Roles} {q p F root : Nat} {fd : FuncId} {c1 : Nat} {all : List (Int × Nat)} {Inv : (Nat → Prop) → List (Int × Nat) → World → Prop} (E : EachI V R q p F root fd c1 all Inv) (hF : F ≤ 256) {Fr : Nat → Bool} (hW : WF F Fr V R)
    (S : Nat → Prop) (w : World) (bp bd bn : Nat) (hb : Boxes w q bp bd bn fd c1) (h1 : S bp) (h2 : S bd) (h3 : S bn) (pre post : List (Int × Nat)) (hI : Inv S pre w) (t first : Nat) (l lv : Nat) (hlv : lv = l + 1) (hl2 : lv ≤ 2) (ht : R t = some (root, lv + 1, first)) (htF : t < F) (hfi : first < 32768) (hall : all = pre ++ visT V lv t first 32 ++ post) (hnt : t ∉ frs (pre ++ visT V lv t first 32))
    (IH : ∀ (w : World) (pre post : List (Int × Nat)) (t first : Nat), Boxes w q bp bd bn fd c1 → Inv S pre w → R t = some (root, l + 1, first) → t < F → first < 32768 → all = pre ++ visT V l t first 32 ++ post → t ∉ frs (pre ++ visT V l t first 32) →
      Calls Tryz.prog 79 #[.int .u64 t, .int .i64 l, .int .i64 first, .pointer (some ⟨bp, 0, none⟩), .pointer (some ⟨bd, 0, none⟩), .pointer (some ⟨bn, 0, none⟩)] w (DownPost S w Inv (pre ++ visT V l t first 32))) :
    Calls Tryz.prog 79 #[.int .u64 t, .int .i64 lv, .int .i64 first, .pointer (some ⟨bp, 0, none⟩), .pointer (some ⟨bd, 0, none⟩), .pointer (some ⟨bn, 0, none⟩)] w (DownPost S w Inv (pre ++ visT V lv t first 32)) := by
  have HB := Lib.hid hb
  have HIH := Lib.hid IH
  have HW := Lib.hid hW
  have HLV := Lib.hid (And.intro hlv hl2)
  have z1 : ((lv : Int) == 0) = false := by simp; omega
  have z2 : ¬ lv = 0 := by omega
  have z3 : IntKind.i64.wrap ((lv : Int) - 1) = (l : Int) := i64_wrap_eq (by omega) (by omega)
  clear IH hW
  have hcf := E.enter
  have H0 := Lib.hid (show Inv S (pre ++ visT V lv t first 0) w ∧ Chg (fun k => ¬ S k) w w from ⟨by rw [visT_zero, List.append_nil]; exact hI, Chg.refl _ _⟩)
  have HLT := Lib.hid (E.bound S pre w hI)
  have HN := Lib.hid (And.intro ht (And.intro htF (And.intro hfi (And.intro hall (And.intro hnt hF)))))
  clear hb hl2 hlv hI ht htF hfi hall hnt hF
  go_enter Tryz.func79, Tryz.ntmps79
  go_wp2_with fail
  go_loopw [13] (fun i wr => ∃ k : Nat, k ≤ 32 ∧ i = .int .i64 k ∧ Hid (Inv S (pre ++ visT V lv t first k) wr ∧ Chg (fun k => ¬ S k) w wr)) (fun i _ => 32 - (intOf i).toNat)
  case atStart => exact ⟨0, Nat.zero_le _, rfl, H0⟩
  case round =>
    obtain ⟨k, hk, rfl, HK⟩ := hrel
    by_cases hlt : k < 32
    · have k0 : decide ((k : Int) < 32) = true := decide_eq_true (by omega)
      obtain ⟨S', Fr', V', hss, hP, hent, hback⟩ := E.pl _ _ _ HK.out.1
      obtain ⟨b1, b2, b3⟩ := HB.out.chg HK.out.2 h1 h2 h3 HLT.out
      obtain ⟨rest, hrest⟩ := visT_split V lv t first k 32 hk
      have hnt : t ∉ frs (pre ++ visT V lv t first k) := fun hm => HN.out.2.2.2.2.1 (by
        rw [hrest, ← List.append_assoc]
        show t ∈ List.map _ _
        rw [List.map_append]
        exact List.mem_append_left _ hm)
      have he := hent t lv first k HN.out.1 hnt hlt
      have KM := f_mem hP
      have KA := sp_at wr t k (Nat.lt_of_lt_of_le HN.out.2.1 HN.out.2.2.2.2.2) hlt (t : Int) (k : Int) rfl rfl
      have KL := f_load8 hP HN.out.2.2.2.2.2 (t * 256 + 8 * k) (fit8 HN.out.2.1 hlt) _ rfl
      rw [show entV V' (t * 256 + 8 * k) = ent V t k from he] at KL
      have hyl := ent_lt V t k
      have VS := Lib.hid (visT_succ V lv t first k)
      have VN := Lib.hid (fun h => visE_no (V := V) (l := lv) (t := t) (first := first) (k := k) h)
      have VP := Lib.hid (fun h => visE_table' (V := V) (t := t) (first := first) (k := k) HLV.out.1 h)
      have VR := Lib.hid hrest
      obtain ⟨y, hy⟩ : ∃ y, y = ent V t k := ⟨_, rfl⟩
      rw [← hy] at KL hyl VN VP
      have HY := Lib.hid hy.symm
      have HYL := Lib.hid hyl
      have hbit := and_one y hyl
      obtain ⟨a, ha⟩ : ∃ a, a = t * 256 + 8 * k := ⟨_, rfl⟩
      rw [← ha] at KL KA
      obtain ⟨n1, n2, n3, n4, n5⟩ := each_wraps first k HN.out.2.2.1 hlt
      have KM := Lib.hid KM; have KA := Lib.hid KA; have KL := Lib.hid KL; have HBK := Lib.hid hback; have HSS := Lib.hid hss
      clear hP hent hback hss hnt he hy ha hyl hrest
      by_cases e1 : y % 2 = 0
      · rw [e1] at hbit
        have HV := Lib.hid (VN.out e1)
        clear e1
        go_wp2_with fail
        refine KM.out.mono ?_
        rintro e w' ⟨rfl, rfl⟩
        go_wp2_with fail
        refine KA.out.mono ?_
        rintro e w' ⟨rfl, rfl⟩
        go_wp2_with fail
        refine KL.out.mono ?_
        rintro e w3 ⟨rfl, m3, c3⟩
        have M3 := Lib.hid (And.intro (HBK.out w3 m3 c3) (HK.out.2.trans (c3.mono (fun k a b => a (HSS.out k b))))); clear m3 c3
        go_wp2_with fail
        go_roundw
        case rel => exact ⟨k + 1, by omega, by go_num, by rw [VS.out, HV.out, List.append_nil]; exact M3.out⟩
        case measure => simp [intOf]; omega
      · have e1' : y % 2 = 1 := by omega
        rw [e1'] at hbit
        have HV := Lib.hid (VP.out e1')
        obtain ⟨rest1, hrest1⟩ := visT_split V lv t first (k + 1) 32 (by omega)
        obtain ⟨f, hf⟩ : ∃ f, f = y / 1024 := ⟨_, rfl⟩
        obtain ⟨nn, hnn⟩ : ∃ nn, nn = first * 32 + k := ⟨_, rfl⟩
        rw [← hf, ← hnn] at HV
        have hkid : kid V t k = some f := by
          rw [hf]; unfold kid; rw [HY.out, if_pos e1']
        have hch := (HW.out.kid (show R t = some (root, (l + 1) + 1, first) from HLV.out.1 ▸ HN.out.1) hlt hkid).1
        rw [← hnn] at hch
        have hfF := HW.out.lt _ _ hch
        have hnb : nn < 32768 := by
          have hb := HW.out.bound hch
          have h1 := HLV.out.1
          have h2 := HLV.out.2
          rcases (show l = 0 ∨ l = 1 by omega) with e | e
          · have := hb.2.2.1 (by omega); omega
          · have := hb.2.1 (by omega); omega
        have hall1 : all = (pre ++ visT V lv t first k) ++ visT V l f nn 32 ++ ((-1, y) :: (rest1 ++ post)) := by
          rw [HN.out.2.2.2.1, hrest1, VS.out, HV.out]
          simp [List.append_assoc]
        have hnf : f ∉ frs ((pre ++ visT V lv t first k) ++ visT V l f nn 32) := by
          have hnd := E.nodup
          rw [hall1] at hnd
          show f ∉ List.map _ _
          intro hm
          have h2 : List.map (fun v : Int × Nat => v.2 / 1024) ((pre ++ visT V lv t first k) ++ visT V l f nn 32 ++ ((-1, y) :: (rest1 ++ post))) = List.map (fun v : Int × Nat => v.2 / 1024) ((pre ++ visT V lv t first k) ++ visT V l f nn 32) ++ f :: List.map (fun v : Int × Nat => v.2 / 1024) (rest1 ++ post) := by
            rw [List.map_append, List.map_cons, hf]
          have h3 : (List.map (fun v : Int × Nat => v.2 / 1024) ((pre ++ visT V lv t first k) ++ visT V l f nn 32 ++ ((-1, y) :: (rest1 ++ post)))).Nodup := hnd
          rw [h2] at h3
          exact (List.nodup_append.1 h3).2.2 f hm f (List.mem_cons_self) rfl
        have KD := fun W (H : Inv S ((pre ++ visT V lv t first k) ++ visT V l f nn 32) W) => Lib.hid (E.act S _ _ _ W hall1 H)
        have KD := Lib.hid KD
        have KN := fun W (B : Boxes W q bp bd bn fd c1) (H : Inv S (pre ++ visT V lv t first k) W) => Lib.hid (HIH.out W _ _ f nn B H hch hfF hnb hall1 hnf)
        have KN := Lib.hid KN
        have KF := fun W => tb_frame W y HYL.out
        rw [← hf] at KF
        have KF := Lib.hid KF
        rw [n5] at n2 n4
        have hnn2 : (first : Int) * 32 + (k : Int) = (nn : Int) := by rw [hnn]; exact n5.symm
        rw [hnn2] at n2 n4
        clear e1 e1' hall1 n5 hrest1 hnf hnb hfF hch hkid hf hnn
        go_wp2_with fail
        refine KM.out.mono ?_
        rintro e w' ⟨rfl, rfl⟩
        go_wp2_with fail
        refine KA.out.mono ?_
        rintro e w' ⟨rfl, rfl⟩
        go_wp2_with fail
        refine KL.out.mono ?_
        rintro e w3 ⟨rfl, m3, c3⟩
        have M3 := Lib.hid (And.intro (HBK.out w3 m3 c3) (HK.out.2.trans (c3.mono (fun k a b => a (HSS.out k b))))); clear m3 c3
        have B3 := HB.out.chg M3.out.2 h1 h2 h3 HLT.out
        have hi3 := E.still S S _ w3 w3.drew M3.out.1 (Chg.refl _ _).drew (fun k h => .inl h) (E.bound S _ w3 M3.out.1)
        have KN1 := Lib.hid (KN.out w3.drew B3 hi3).out
        have KF1 := Lib.hid (KF.out w3.drew)
        have hcc := M3.out.2.drew
        have HC3 := Lib.hid hcc
        obtain ⟨b1, b2, b3⟩ := B3
        clear hi3 hcc
        go_wp2_with fail
        go_region_held3 (fun w' => w'.cell? ⟨bn, 0, none⟩ = some (downV bp bd bn)) (first | assumption | exact b3 | (simp [*]; done))
          (first
            | (go_at_call 58; refine KF1.out.mono ?_; rintro e v1 ⟨rfl, rfl⟩)
            | (go_at_call 79; refine KN1.out.mono ?_; rintro e v9 ⟨rfl, i9, k9⟩; have M9 := Lib.hid (And.intro i9 (HC3.out.trans k9)); clear i9 k9; obtain ⟨q1, q2, q3⟩ := HB.out.chg M9.out.2 h1 h2 h3 HLT.out))
        go_wp2_with fail
        refine (KD.out v9 M9.out.1).out.mono ?_
        rintro e w5 ⟨rfl, i4, c4⟩
        have M4 := Lib.hid (And.intro i4 (M9.out.2.trans c4)); clear i4 c4
        go_wp2_with fail
        go_roundw
        case rel => exact ⟨k + 1, by omega, by go_num, by rw [VS.out, HV.out, ← List.append_assoc, ← List.append_assoc]; exact M4.out⟩
        case measure => simp [intOf]; omega
    · obtain rfl : k = 32 := by omega
      have k0 : decide (((32 : Nat) : Int) < 32) = false := by decide
      clear hlt
      go_wp2_with fail
      go_end0
      exact ⟨rfl, HK.out⟩

theorem each_boxes (w : World) (q : Nat) (fd : FuncId) (c1 : Nat) (T1 T2 T3 : TypeId) :
    Boxes (((w.alloc (.cells #[.pointer (some ⟨q, 0, none⟩)] T1)).alloc (.cells #[.func (.func fd) #[] #[.pointer (some ⟨c1, 0, none⟩)]] T2)).alloc (.cells #[downV w.heap.size (w.heap.size + 1) (w.heap.size + 1 + 1)] T3)) q w.heap.size (w.heap.size + 1) (w.heap.size + 1 + 1) fd c1 ∧
    Chg (fun _ => False) w (((w.alloc (.cells #[.pointer (some ⟨q, 0, none⟩)] T1)).alloc (.cells #[.func (.func fd) #[] #[.pointer (some ⟨c1, 0, none⟩)]] T2)).alloc (.cells #[downV w.heap.size (w.heap.size + 1) (w.heap.size + 1 + 1)] T3)) ∧
    (((w.alloc (.cells #[.pointer (some ⟨q, 0, none⟩)] T1)).alloc (.cells #[.func (.func fd) #[] #[.pointer (some ⟨c1, 0, none⟩)]] T2)).alloc (.cells #[downV w.heap.size (w.heap.size + 1) (w.heap.size + 1 + 1)] T3)).heap.size = w.heap.size + 3 := by
  have B1 := Blk.new w #[.pointer (some ⟨q, 0, none⟩)] T1
  have B2 := Blk.new (w.alloc (.cells #[.pointer (some ⟨q, 0, none⟩)] T1)) #[.func (.func fd) #[] #[.pointer (some ⟨c1, 0, none⟩)]] T2
  have B3 := Blk.new ((w.alloc (.cells #[.pointer (some ⟨q, 0, none⟩)] T1)).alloc (.cells #[.func (.func fd) #[] #[.pointer (some ⟨c1, 0, none⟩)]] T2)) #[downV w.heap.size (w.heap.size + 1) (w.heap.size + 1 + 1)] T3
  have z1 : (w.alloc (.cells #[.pointer (some ⟨q, 0, none⟩)] T1)).heap.size = w.heap.size + 1 := by simp
  have z2 : ((w.alloc (.cells #[.pointer (some ⟨q, 0, none⟩)] T1)).alloc (.cells #[.func (.func fd) #[] #[.pointer (some ⟨c1, 0, none⟩)]] T2)).heap.size = w.heap.size + 1 + 1 := by simp
  rw [z1] at B2
  rw [z2] at B3
  exact ⟨⟨((B1.alloc _).alloc _).cellv 0 _ rfl, (B2.alloc _).cellv 0 _ rfl, B3.cellv 0 _ rfl⟩, (((Chg.refl _ w).alloc _).alloc _).alloc _, by simp⟩

theorem each_down {V : Nat → Nat} {R : Roles} {q p F root : Nat} {fd : FuncId} {c1 : Nat} {all : List (Int × Nat)} {Inv : (Nat → Prop) → List (Int × Nat) → World → Prop} (E : EachI V R q p F root fd c1 all Inv) (hF : F ≤ 256) {Fr : Nat → Bool} (hW : WF F Fr V R)
    (hr : R root = some (root, 3, 0)) (hall : all = visT V 2 root 0 32) (hnr : root ∉ frs all) (S : Nat → Prop) (w : World) (hI : Inv S [] w) :
    ∀ W, Boxes W q w.heap.size (w.heap.size + 1) (w.heap.size + 1 + 1) fd c1 → Chg (fun _ => False) w W → W.heap.size = w.heap.size + 3 →
      Calls Tryz.prog 79 #[.int .u64 root, .int .i64 2, .int .i64 0, .pointer (some ⟨w.heap.size, 0, none⟩), .pointer (some ⟨w.heap.size + 1, 0, none⟩), .pointer (some ⟨w.heap.size + 1 + 1, 0, none⟩)] W (DownPost S w Inv all) := by
  have hrF := hW.lt _ _ hr
  have hbd := E.bound S [] w hI
  intro W hB hC hz
  have hI1 := E.still S (fun k => S k ∨ k = w.heap.size ∨ k = w.heap.size + 1 ∨ k = w.heap.size + 1 + 1) [] w W hI hC (fun k h => by rcases h with h | h; exact .inl h; exact .inr (by omega)) (fun k h => by rcases h with h | h; (have := hbd k h; omega); omega)
  generalize hS1 : (fun k => S k ∨ k = w.heap.size ∨ k = w.heap.size + 1 ∨ k = w.heap.size + 1 + 1) = S1 at hI1
  have s1 : S1 w.heap.size := by rw [← hS1]; exact .inr (.inl rfl)
  have s2 : S1 (w.heap.size + 1) := by rw [← hS1]; exact .inr (.inr (.inl rfl))
  have s3 : S1 (w.heap.size + 1 + 1) := by rw [← hS1]; exact .inr (.inr (.inr rfl))
  have sS : ∀ k, S k → S1 k := fun k h => by rw [← hS1]; exact .inl h
  have D0 := fun (W : World) (pre post : List (Int × Nat)) (t first : Nat) (B : Boxes W q w.heap.size (w.heap.size + 1) (w.heap.size + 1 + 1) fd c1) (I : Inv S1 pre W) (h1 : R t = some (root, 0 + 1, first)) (h2 : t < F) (h3 : first < 32768) (h4 : all = pre ++ visT V 0 t first 32 ++ post) (h5 : t ∉ frs (pre ++ visT V 0 t first 32)) =>
    down_page E hF S1 W _ _ _ B s1 s2 s3 pre post I t first h1 h2 h3 h4 h5
  have D1 := fun (W : World) (pre post : List (Int × Nat)) (t first : Nat) (B : Boxes W q w.heap.size (w.heap.size + 1) (w.heap.size + 1 + 1) fd c1) (I : Inv S1 pre W) (h1 : R t = some (root, 1 + 1, first)) (h2 : t < F) (h3 : first < 32768) (h4 : all = pre ++ visT V 1 t first 32 ++ post) (h5 : t ∉ frs (pre ++ visT V 1 t first 32)) =>
    down_table E hF hW S1 W _ _ _ B s1 s2 s3 pre post I t first 0 1 rfl (by omega) h1 h2 h3 h4 h5 D0
  have D2 := down_table E hF hW S1 W _ _ _ hB s1 s2 s3 [] [] hI1 root 0 1 2 rfl (by omega) hr hrF (by omega) (by rw [List.append_nil, List.nil_append]; exact hall) (by rw [List.nil_append, ← hall]; exact hnr) D1
  refine D2.mono fun e w' ⟨a, b, c⟩ => ⟨a, ?_, ?_⟩
  · rw [List.nil_append, ← hall] at b
    exact E.still S1 S all w' w' b (Chg.refl _ _) (fun k h => .inl (sS k h)) (fun k h => E.bound S1 all w' b k (sS k h))
  · exact (hC.mono (fun _ h => h.elim)).trans (c.mono (fun k a b => a (sS k b)))

set_option maxRecDepth 100000 in
set_option maxHeartbeats 1600000 in
theorem sp_each {V : Nat → Nat} {R : Roles} {q p F root : Nat} {fd : FuncId} {c1 : Nat} {all : List (Int × Nat)} {Inv : (Nat → Prop) → List (Int × Nat) → World → Prop} (E : EachI V R q p F root fd c1 all Inv) (hF : F ≤ 256) {Fr : Nat → Bool} (hW : WF F Fr V R)
    (hr : R root = some (root, 3, 0)) (hall : all = visT V 2 root 0 32) (hnr : root ∉ frs all) (S : Nat → Prop) (w : World) (hI : Inv S [] w) :
    Calls Tryz.prog 52 #[.pointer (some ⟨q, 0, none⟩), .int .i64 root, .func (.func fd) #[] #[.pointer (some ⟨c1, 0, none⟩)]] w (DownPost S w Inv all) := by
  have hmf : ∀ (fn : Fn) (first cap : Array Value) (w : World), (Instr.makeFunc fn first cap).run Tryz.prog w = .ok (.func fn first cap) w := fun _ _ _ _ => rfl
  have hrF := hW.lt _ _ hr
  have q0 : IntKind.u64.wrap (root : Int) = (root : Int) := u64_wrap_lt root (by omega)
  have KD := each_down E hF hW hr hall hnr S w hI
  have KD := Lib.hid KD
  clear hr hall hnr hI hrF hW
  go_enter Tryz.func52, Tryz.ntmps52
  go_wp2_with fail
  refine (KD.out _ (each_boxes w q fd c1 _ _ _).1 (each_boxes w q fd c1 _ _ _).2.1 (each_boxes w q fd c1 _ _ _).2.2).mono ?_
  rintro e w' ⟨rfl, i1, c1x⟩
  have HI := Lib.hid (And.intro i1 c1x); clear i1 c1x
  go_wp2_with fail
  go_end0
  exact ⟨rfl, HI.out⟩
end Go.Proofs.YtijooajhjcfneaaGreat.Each1

namespace Go.Proofs.YtijooajhjcfneaaGreat
open Go.RowKit

/-- frames that are given back -/
def giveF (Fr : Nat → Bool) (D : List Nat) : Nat → Bool := fun f => Fr f || D.contains f
def giveV (V : Nat → Nat) (D : List Nat) : Nat → Nat := fun a => if D.contains (a / 256) then 0 else V a
theorem giveF_nil (Fr : Nat → Bool) : giveF Fr [] = Fr := by funext f; unfold giveF; simp
theorem giveV_nil (V : Nat → Nat) : giveV V [] = V := by funext a; unfold giveV; simp
theorem giveF_next (Fr : Nat → Bool) (D : List Nat) (f : Nat) : setF (giveF Fr D) f true = giveF Fr (D ++ [f]) := by
  funext g
  unfold setF giveF
  by_cases e : g = f
  · subst e; simp
  · rw [if_neg e]
    congr 1
    apply Bool.eq_iff_iff.2
    simp [e]
theorem giveV_next {F f : Nat} (V : Nat → Nat) (D : List Nat) (hf : f < F) : clV F (giveV V D) (f : Int) = giveV V (D ++ [f]) := by
  funext a
  rw [clV_at _ hf]
  unfold giveV
  by_cases e : a / 256 = f
  · rw [if_pos e, if_pos (by simp [e])]
  · rw [if_neg e]
    have h : (D ++ [f]).contains (a / 256) = D.contains (a / 256) := by
      apply Bool.eq_iff_iff.2
      simp [e]
    rw [h]
theorem giveV_ent (V : Nat → Nat) (D : List Nat) (t k : Nat) (ht : t ∉ D) (hk : k < 32) : ent (giveV V D) t k = ent V t k :=
  ent_congr hk fun a ha => by
    unfold giveV
    rw [if_neg (by rw [ha]; simpa using ht)]

def FreeI (q p F : Nat) (Fr : Nat → Bool) (V : Nat → Nat) (c1 : Nat) (S : Nat → Prop) (pre : List (Int × Nat)) (w : World) : Prop :=
  Pl (fun k => S k ∨ k = c1) w q p F 0 (giveF Fr (frs pre)) (giveV V (frs pre)) ∧ w.cell? ⟨c1, 0, none⟩ = some (.pointer (some ⟨q, 0, none⟩))

set_option maxRecDepth 100000 in
set_option maxHeartbeats 1600000 in
theorem sp_free1 {S : Nat → Prop} {w : World} {q p F c1 : Nat} {Fr : Nat → Bool} {V : Nat → Nat} (h : Pl (fun k => S k ∨ k = c1) w q p F 0 Fr V) (hF : F ≤ 256) (hc : w.cell? ⟨c1, 0, none⟩ = some (.pointer (some ⟨q, 0, none⟩))) (x : Int) (e : Nat) (he : e < 18446744073709551616) (hf : e / 1024 < F) (hfr : Fr (e / 1024) = false) :
    Calls Tryz.prog 59 #[.int .i64 x, .int .u64 (e : Nat), .pointer (some ⟨c1, 0, none⟩)] w fun r w' => r = .returned (.tuple #[]) ∧ Pl (fun k => S k ∨ k = c1) w' q p F 0 (setF Fr (e / 1024) true) (clV F V ((e / 1024 : Nat) : Int)) ∧ Chg (fun k => ¬ (S k ∨ k = c1)) w w' := by
  have KF := tb_frame w.drew e he
  obtain ⟨f, hff⟩ : ∃ f, f = e / 1024 := ⟨_, rfl⟩
  rw [← hff] at KF hf hfr ⊢
  have KG := f_give_yes h.drew hF f (Nat.zero_le _) hf hfr
  have q1 : wrap64 (f : Int) = (f : Int) := by unfold wrap64; omega
  have q2 : IntKind.i64.wrap (f : Int) = (f : Int) := i64_wrap_eq rfl (by omega)
  have KF := Lib.hid KF; have KG := Lib.hid KG
  clear h he hf hfr hff hF
  go_enter Tryz.func59, Tryz.ntmps59
  go_wp2_with fail
  go_region_held3 (fun w' => w'.cell? ⟨c1, 0, none⟩ = some (.pointer (some ⟨q, 0, none⟩))) (first | assumption | exact hc | (simp [*]; done))
    (first
      | (go_at_call 58; refine KF.out.mono ?_; rintro e v1 ⟨rfl, rfl⟩)
      | (go_at_call 60; refine KG.out.mono ?_; rintro e v9 ⟨rfl, m9, b9⟩; have M9 := Lib.hid (And.intro m9 b9); have c9 : v9.cell? ⟨c1, 0, none⟩ = some (.pointer (some ⟨q, 0, none⟩)) := (b9.cell (World.block_lt_of_cell? _ _ (show w.drew.cell? ⟨c1, 0, none⟩ = _ from hc)) (fun a => a (.inr rfl))).trans hc; clear m9 b9))
  go_wp2_with fail
  go_end0
  exact ⟨rfl, M9.out.1, (Chg.refl _ w).drew.trans M9.out.2⟩

theorem vis_lt (V : Nat → Nat) : ∀ l t first k, ∀ v ∈ visE V l t first k, v.2 < 18446744073709551616 := by
  intro l
  induction l with
  | zero =>
    intro t first k v hv
    rcases odd_cases V t k with e | e
    · rw [visE_no e] at hv; cases hv
    · rw [visE_page e] at hv
      have hv' := List.mem_singleton.1 hv
      rw [hv']
      exact ent_lt V t k
  | succ l ih =>
    intro t first k v hv
    rcases odd_cases V t k with e | e
    · rw [visE_no e] at hv; cases hv
    · rw [visE_table e] at hv
      rcases List.mem_append.1 hv with hv | hv
      · obtain ⟨j, hj, hv⟩ := mem_visT.1 hv
        exact ih _ _ j v hv
      · have hv' := List.mem_singleton.1 hv
        rw [hv']
        exact ent_lt V t k
theorem vis_frame {F : Nat} {Fr : Nat → Bool} {V : Nat → Nat} {R : Roles} (h : WF F Fr V R) {root : Nat} (hr : R root = some (root, 3, 0)) {v : Int × Nat} (hv : v ∈ visT V 2 root 0 32) : v.2 < 18446744073709551616 ∧ v.2 / 1024 < F ∧ Fr (v.2 / 1024) = false := by
  obtain ⟨k, hk, hv1⟩ := mem_visT.1 hv
  obtain ⟨l1, i1, p1, p2, p3⟩ := vis_role h root 2 root 0 k hr hk v hv1
  have hF := h.lt _ _ p1
  refine ⟨vis_lt V 2 root 0 k v hv1, hF, ?_⟩
  cases e : Fr (v.2 / 1024) with
  | false => rfl
  | true => have := ((h.free _).1 e).2; rw [p1] at this; cases this
theorem free_each {q p F c1 root : Nat} {s : PS} {R : Roles} (hW : WFS F s R) (hF : F ≤ 256) (hr : R root = some (root, 3, 0)) :
    Each1.EachI s.V R q p F root 59 c1 (visT s.V 2 root 0 32) (FreeI q p F s.Fr s.V c1) := by
  refine ⟨fun S pre w h => ?_, fun S S' pre w w' h c hs hlt => ?_, fun S pre v post w hall h => ?_, (vis_nodup hW hr).1, fun a b w => by go_simp, fun S pre w h k hk => h.1.lt k (.inl hk)⟩
  · refine ⟨_, _, _, fun k hk => .inl hk, h.1, fun t l i k ht hn hk => giveV_ent _ _ _ _ hn hk, fun w' hp c => ⟨hp, ?_⟩⟩
    exact (c.cell (World.block_lt_of_cell? _ _ h.2) (fun a => a (.inr rfl))).trans h.2
  · have hl := World.block_lt_of_cell? _ _ h.2
    refine ⟨h.1.beside c (fun _ h => h.elim) (fun k hk => ?_) (fun k hk => ?_), (c.cell hl (fun a => a)).trans h.2⟩
    · rcases hk with hk | hk
      · exact (hs k hk).imp .inl id
      · exact .inl (.inr hk)
    · rcases hk with hk | rfl
      · exact hlt k hk
      · exact Nat.lt_of_lt_of_le hl c.size
  · have hv : v ∈ visT s.V 2 root 0 32 := by rw [hall]; simp
    obtain ⟨h1, h2, h3⟩ := vis_frame hW hr hv
    have hnd := (vis_nodup hW hr).1
    rw [hall, frs_append] at hnd
    have hn : v.2 / 1024 ∉ frs pre := fun hm => (List.nodup_append.1 hnd).2.2 _ hm _ (List.mem_cons_self) rfl
    have k := sp_free1 h.1 hF h.2 v.1 v.2 h1 h2 (by unfold giveF; rw [h3]; simpa using hn)
    refine k.mono fun e w' ⟨a, b, c⟩ => ⟨a, ⟨?_, ?_⟩, c.mono (fun k a b => a (.inl b))⟩
    · rw [giveF_next, giveV_next s.V (frs pre) h2] at b
      rw [frs_append]
      exact b
    · exact (c.cell (World.block_lt_of_cell? _ _ h.2) (fun a => a (.inr rfl))).trans h.2
end Go.Proofs.YtijooajhjcfneaaGreat

namespace Go.Proofs.YtijooajhjcfneaaGreat
open Go.RowKit

theorem off_give {F : Nat} {s : PS} {R : Roles} (hW : WFS F s R) {root : Nat} (hr : R root = some (root, 3, 0)) : giveF s.Fr (frs (visT s.V 2 root 0 32) ++ [root]) = (s.off R root).Fr ∧ giveV s.V (frs (visT s.V 2 root 0 32) ++ [root]) = (s.off R root).V := by
  have hc : ∀ f, (frs (visT s.V 2 root 0 32) ++ [root]).contains f = ownR R root f := fun f => by
    apply Bool.eq_iff_iff.2
    rw [← vis_own hW hr f]
    simp
  constructor
  · funext f
    show (s.Fr f || _) = (s.Fr f || _)
    rw [hc]
  · funext a
    show (if _ then _ else _) = (if _ then _ else _)
    rw [hc]
theorem sp_free_nil (w : World) (root : Int) :
    Calls Tryz.prog 30 #[.pointer none, .int .i64 root] w fun e w' => e = .returned (.int .i64 1) ∧ Chg (fun _ => False) w w' := by
  have HT := fun W => Lib.hid (sp_taken_nil W root)
  have HT := Lib.hid HT
  go_enter Tryz.func30, Tryz.ntmps30
  go_wp2_with fail
  refine (HT.out _).out.mono ?_
  rintro e w1 ⟨rfl, rfl⟩
  go_wp2_with fail
  go_ret
  exact ⟨rfl, (Chg.refl _ _).alloc _⟩
theorem Pl.boxed {S : Nat → Prop} {w w' : World} {q p F first : Nat} {Fr : Nat → Bool} {V : Nat → Nat} (h : Pl S w q p F first Fr V) (c : Chg (fun _ => False) w w') (hz : w.heap.size < w'.heap.size) : Pl (fun k => S k ∨ k = w.heap.size) w' q p F first Fr V :=
  h.beside c (fun _ h => h.elim) (fun k hk => hk.imp id (fun e => by omega)) (fun k hk => by rcases hk with hk | rfl; (have := h.lt k hk; omega); exact hz)

set_option maxRecDepth 100000 in
set_option maxHeartbeats 1600000 in
theorem sp_free {S : Nat → Prop} {w : World} {q p F : Nat} {s : PS} {R : Roles} (h : Pl S w q p F 0 s.Fr s.V) (hF : F ≤ 256) (hW : WFS F s R) (root : Nat) (hr : R root = some (root, 3, 0)) :
    Calls Tryz.prog 30 #[.pointer (some ⟨q, 0, none⟩), .int .i64 root] w (StepF S w q p F 0 (s.off R root).Fr (s.off R root).V (.int .i64 0)) := by
  have hmf : ∀ (fn : Fn) (first cap : Array Value) (w : World), (Instr.makeFunc fn first cap).run Tryz.prog w = .ok (.func fn first cap) w := fun _ _ _ _ => rfl
  have hb : Pl (fun k => S k ∨ k = w.heap.size) (w.alloc (.cells #[.pointer (some ⟨q, 0, none⟩)] 36)) q p F 0 s.Fr s.V := h.boxed ((Chg.refl _ w).alloc _) (by simp)
  have hc : (w.alloc (.cells #[.pointer (some ⟨q, 0, none⟩)] 36)).cell? ⟨w.heap.size, 0, none⟩ = some (.pointer (some ⟨q, 0, none⟩)) := (Blk.new w _ _).cellv 0 _ rfl
  have HT := sp_taken hb hF root
  rw [hW.taken hr] at HT
  have KE := fun (S : Nat → Prop) (W : World) (I : FreeI q p F s.Fr s.V w.heap.size S [] W) => Lib.hid (Each1.sp_each (free_each (c1 := w.heap.size) hW hF hr) hF hW hr rfl (vis_nodup hW hr).2 S W I)
  have hrF := hW.lt _ _ hr
  have hrn : giveF s.Fr (frs (visT s.V 2 root 0 32)) root = false := by
    have h1 : s.Fr root = false := by
      cases e : s.Fr root with
      | false => rfl
      | true => have := ((hW.free _).1 e).2; rw [hr] at this; cases this
    unfold giveF
    rw [h1]
    have := (vis_nodup hW hr).2
    simpa using this
  have KG := fun (S : Nat → Prop) (W : World) (H : Pl S W q p F 0 (giveF s.Fr (frs (visT s.V 2 root 0 32))) (giveV s.V (frs (visT s.V 2 root 0 32)))) => f_give_yes H hF root (Nat.zero_le _) hrF hrn
  rw [giveF_next, giveV_next s.V _ hrF, (off_give hW hr).1, (off_give hW hr).2] at KG
  generalize visT s.V 2 root 0 32 = vis at *
  have HC0 := Lib.hid (show Chg (fun k => ¬ S k) w (w.alloc (.cells #[.pointer (some ⟨q, 0, none⟩)] 36)) from (Chg.refl _ _).alloc _)
  have HT := Lib.hid HT; have KE := Lib.hid KE; have KG := Lib.hid KG; have HB := Lib.hid hb; have HCC := Lib.hid hc
  have HSL := Lib.hid (show w.heap.size < (w.alloc (.cells #[.pointer (some ⟨q, 0, none⟩)] 36)).heap.size by simp)
  clear h hb hF hW hr hrF hrn
  go_enter Tryz.func30, Tryz.ntmps30
  go_wp2_with fail
  refine HT.out.mono ?_
  rintro e w1 ⟨rfl, m1, c1⟩
  have d1 : w1.cell? ⟨w.heap.size, 0, none⟩ = some (.pointer (some ⟨q, 0, none⟩)) := (c1.cell HSL.out (fun a => a (.inr rfl))).trans HCC.out
  have M1 := Lib.hid (show FreeI q p F s.Fr s.V w.heap.size S [] w1 from ⟨by rw [show frs [] = [] from rfl, giveF_nil, giveV_nil]; exact m1, d1⟩)
  have C1 := Lib.hid (HC0.out.trans (c1.mono (fun k a b => a (.inl b)))); clear m1 c1
  go_wp2_with fail
  refine (KE.out S w1 M1.out).out.mono ?_
  rintro e w2 ⟨rfl, i2, c2⟩
  have d2 := i2.2
  have M2 := Lib.hid i2.1; have C2 := Lib.hid (C1.out.trans c2); clear i2 c2
  go_wp2_with fail
  refine (KG.out _ w2 M2.out).mono ?_
  rintro e w3 ⟨rfl, m3, c3⟩
  have M3 := Lib.hid (And.intro m3 (C2.out.trans (c3.mono (fun k a b => a (.inl b))))); clear m3 c3
  go_wp2_with fail
  go_ret
  exact ⟨rfl, M3.out.1.weak (fun k a => .inl a), M3.out.2⟩
end Go.Proofs.YtijooajhjcfneaaGreat

namespace Go.Proofs.YtijooajhjcfneaaGreat
open Go.RowKit

theorem sp_new {S : Nat → Prop} {w : World} {q p F : Nat} {s : PS} (h : Pl S w q p F 0 s.Fr s.V) (hF : F ≤ 256) (hc : 0 < s.left F) :
    Calls Tryz.prog 28 #[.pointer (some ⟨q, 0, none⟩)] w (StepF S w q p F 0 (s.take F).Fr (s.take F).V (.tuple #[.int .i64 (s.top F : Nat), .int .i64 0])) := by
  have KT := f_take h hF hc
  generalize s.top F = f at *
  have KT := Lib.hid KT
  clear h hc
  go_enter Tryz.func28, Tryz.ntmps28
  go_wp2_with fail
  refine KT.out.mono ?_
  rintro e w1 ⟨rfl, m1, c1⟩
  have M1 := Lib.hid (And.intro m1 c1); clear m1 c1
  go_wp2_with fail
  go_ret2
  exact ⟨rfl, M1.out⟩
theorem sp_new_full {S : Nat → Prop} {w : World} {q p F : Nat} {s : PS} (h : Pl S w q p F 0 s.Fr s.V) (hF : F ≤ 256) (hc : s.left F = 0) :
    Calls Tryz.prog 28 #[.pointer (some ⟨q, 0, none⟩)] w (StepF S w q p F 0 s.Fr s.V (.tuple #[.int .i64 0, .int .i64 4])) := by
  have KT := Lib.hid (f_take_none h hF (fun g _ hg => by have := cnt_none F hc g hg; rwa [Nat.zero_add] at this))
  clear h hc
  go_enter Tryz.func28, Tryz.ntmps28
  go_wp2_with fail
  refine KT.out.mono ?_
  rintro e w1 ⟨rfl, m1, c1⟩
  have M1 := Lib.hid (And.intro m1 c1); clear m1 c1
  go_wp2_with fail
  go_ret2
  exact ⟨rfl, M1.out⟩
theorem sp_new_nil (w : World) :
    Calls Tryz.prog 28 #[.pointer none] w fun e w' => e = .returned (.tuple #[.int .i64 0, .int .i64 1]) ∧ w = w' := by
  have KT : Calls Tryz.prog 12 #[.pointer none] w fun e w' => e = .returned (.tuple #[.int .i64 0, .int .i64 1]) ∧ w = w' := by
    go_enter Tryz.func12, Tryz.ntmps12
    go_wp2_with fail
    go_step3
    go_wp2_with fail
    try rw [Exit.noGoto_ret]
    go_ret2
    exact ⟨rfl, rfl⟩
  have KT := Lib.hid KT
  go_enter Tryz.func28, Tryz.ntmps28
  go_wp2_with fail
  refine KT.out.mono ?_
  rintro e w1 ⟨rfl, rfl⟩
  go_wp2_with fail
  go_ret2
  exact ⟨rfl, rfl⟩

/-- the physical address of one -/
def tbAt (V : Nat → Nat) (F root at_ acc : Nat) : Option Nat := if 8388608 ≤ at_ then none else tbWalk V F root at_ acc
theorem wkR_at (V : Nat → Nat) (F root at_ acc : Nat) (hr : root < F) (ha : 1 ≤ acc ∧ acc ≤ 3) : wkR V F (root : Int) at_ (acc : Int) = lfVal (tbAt V F root at_ acc) := by
  unfold wkR tbAt
  rw [if_neg (by omega)]
  by_cases h : 8388608 ≤ at_
  · rw [if_pos h, if_pos h]; rfl
  · rw [if_neg h, if_neg h]
    rfl
end Go.Proofs.YtijooajhjcfneaaGreat

namespace Go.Proofs.YtijooajhjcfneaaGreat
open Go.RowKit

/-- the physical addresses of so many bytes from one on; none: one of them may not be -/
def adrs (V : Nat → Nat) (F root at_ acc : Nat) : Nat → Option (List Nat)
  | 0 => some []
  | n + 1 => (adrs V F root at_ acc n).bind fun l => (tbAt V F root ((at_ + n) % 18446744073709551616) acc).map fun a => l ++ [a]
theorem adrs_none {V : Nat → Nat} {F root at_ acc : Nat} : ∀ n m, n ≤ m → adrs V F root at_ acc n = none → adrs V F root at_ acc m = none := by
  intro n m hm h
  obtain ⟨d, rfl⟩ : ∃ d, m = n + d := ⟨m - n, by omega⟩
  clear hm
  induction d with
  | zero => exact h
  | succ d ih =>
    show (adrs V F root at_ acc (n + d)).bind _ = none
    rw [ih]
    rfl
theorem adrs_step_no {V : Nat → Nat} {F root at_ acc n : Nat} {l : List Nat} (h : adrs V F root at_ acc n = some l) (h2 : tbAt V F root ((at_ + n) % 18446744073709551616) acc = none) : adrs V F root at_ acc (n + 1) = none := by
  show (adrs V F root at_ acc n).bind _ = none
  rw [h]
  show Option.map _ _ = none
  rw [h2]
  rfl
theorem adrs_step {V : Nat → Nat} {F root at_ acc n a : Nat} {l : List Nat} (h : adrs V F root at_ acc n = some l) (h2 : tbAt V F root ((at_ + n) % 18446744073709551616) acc = some a) : adrs V F root at_ acc (n + 1) = some (l ++ [a]) := by
  show (adrs V F root at_ acc n).bind _ = _
  rw [h]
  show Option.map _ _ = _
  rw [h2]
  rfl
theorem adrs_len {V : Nat → Nat} {F root at_ acc : Nat} : ∀ n l, adrs V F root at_ acc n = some l → l.length = n := by
  intro n
  induction n with
  | zero => intro l h; cases h; rfl
  | succ n ih =>
    intro l h
    have h' : (adrs V F root at_ acc n).bind (fun l => (tbAt V F root ((at_ + n) % 18446744073709551616) acc).map fun a => l ++ [a]) = some l := h
    rw [Option.bind_eq_some_iff] at h'
    obtain ⟨l1, h1, h2⟩ := h'
    rw [Option.map_eq_some_iff] at h2
    obtain ⟨a, _, rfl⟩ := h2
    rw [List.length_append, ih l1 h1]
    rfl
theorem at_wrap (a i : Nat) (hi : i < 4097) : IntKind.u64.wrap (i : Int) = (i : Int) ∧ IntKind.u64.wrap ((a : Int) + (i : Int)) = (((a + i) % 18446744073709551616 : Nat) : Int) := by
  refine ⟨u64_wrap_lt i (by omega), ?_⟩
  rw [u64_wrap]
  omega
/-- memory behind the bytes that are put there, one by one -/
def outV (V : Nat → Nat) (xs : List Nat) (s : ByteArray) : Nat → Nat → Nat
  | 0 => V
  | j + 1 => putV (outV V xs s j) (xs.getD j 0) 1 (fun _ => byt s j)
end Go.Proofs.YtijooajhjcfneaaGreat

namespace Go.Proofs.YtijooajhjcfneaaGreat
open Go.RowKit

def OutAt (V : Nat → Nat) (F root at_ i : Nat) (xs : List Nat) : Prop := adrs V F root at_ 2 i = some xs
theorem lfVal_none : lfVal none = .tuple #[.int .u64 0, .int .i64 3] := rfl
theorem lfVal_some (a : Nat) : lfVal (some a) = .tuple #[.int .u64 (a : Nat), .int .i64 0] := rfl
theorem RowAt.nil {S : Nat → Prop} {w : World} {q p F : Nat} {Fr : Nat → Bool} {V : Nat → Nat} (h : Pl S w q p F 0 Fr V) : RowAt S w w.heap.size q p F Fr V (.slice none 0 0) [] w :=
  ⟨World.ownsRow_nil _ _ _ _, h.weak (fun k hk => by rcases hk with hk | hk; exact hk; cases hk), Chg.refl _ _⟩

set_option maxRecDepth 100000 in
set_option maxHeartbeats 1600000 in
theorem sp_out_no {S : Nat → Prop} {w : World} {q p F : Nat} {Fr : Nat → Bool} {V : Nat → Nat} {R : Roles} (h : Pl S w q p F 0 Fr V) (hF : F ≤ 256) (hW : WF F Fr V R) (root : Nat) (hr : R root = some (root, 3, 0)) (at_ : Nat) (s : ByteArray) (hs : s.size ≤ 4096) (hno : adrs V F root at_ 2 s.size = none) :
    Calls Tryz.prog 20 #[.pointer (some ⟨q, 0, none⟩), .int .i64 root, .int .u64 at_, .string s] w (StepF S w q p F 0 Fr V (.int .i64 3)) := by
  obtain ⟨i0, hi, hz0, hz1, hz2⟩ := info_parts Tryz.infoU64
  have HT := sp_taken h hF root
  rw [hW.taken hr] at HT
  have hrF := hW.lt _ _ hr
  have KW := fun (W : World) (S' : Nat → Prop) (x : Nat) (H : Pl S' W q p F 0 Fr V) => f_wk H hF root x 2
  have KW := fun (W : World) (S' : Nat → Prop) (x : Nat) (H : Pl S' W q p F 0 Fr V) => (wkR_at V F root x 2 hrF (by omega)) ▸ KW W S' x H
  have d1 : decide ((4096 : Int) < (s.size : Int)) = false := decide_eq_false (by omega)
  have d2 : ¬ 4096 < s.size := by omega
  have HT := Lib.hid HT; have KW := Lib.hid KW
  have HN := Lib.hid (And.intro hs hno)
  clear h hF hW hr hrF hs hno
  generalize hsz : s.size = n at *
  have HSZ := Lib.hid hsz
  go_enter Tryz.func20, Tryz.ntmps20
  go_wp2_with fail
  refine HT.out.mono ?_
  rintro e w1 ⟨rfl, m1, c1⟩
  have M1 := Lib.hid (RowAt.nil m1); have C1 := Lib.hid c1; clear m1 c1
  go_wp2_with fail
  go_loopw [9, 26] (fun l i wr => ∃ sv xs j, sv = l ∧ j ≤ n ∧ i = .int .i64 (j : Nat) ∧ Hid (RowAt S w1 w1.heap.size q p F Fr V sv xs wr) ∧ Hid (OutAt V F root at_ j xs)) (fun _ i _ => n - (intOf i).toNat)
  case atStart => exact ⟨_, [], 0, rfl, Nat.zero_le _, rfl, M1, Lib.hid rfl⟩
  case round =>
    obtain ⟨sv, xs, j, rfl, hj, rfl, HA, HO⟩ := hrel
    by_cases hlt : j < n
    · have k0 : decide ((j : Int) < (n : Int)) = true := decide_eq_true (by omega)
      have hn := HN.out.1
      have hlen := adrs_len j xs HO.out
      have km : xs.length + 1 ≤ maxLen := by unfold maxLen; omega
      have kb : (xs.length + 1) * 8 ≤ 140737488355328 := by omega
      obtain ⟨t1, t2⟩ := at_wrap at_ j (by omega)
      obtain ⟨X, hX⟩ : ∃ X, X = (at_ + j) % 18446744073709551616 := ⟨_, rfl⟩
      rw [← hX] at t2
      have KM := Lib.hid (f_mem HA.out.2.1)
      have KW1 := KW.out wr _ X HA.out.2.1
      have HX := Lib.hid hX
      clear hX hn hlen
      rcases opt_cases (tbAt V F root X 2) with ht | ⟨a, ht⟩
      · rw [ht, lfVal_none] at KW1
        have KW1 := Lib.hid KW1
        clear ht
        go_wp2_with fail
        refine KM.out.mono ?_
        rintro e w' ⟨rfl, rfl⟩
        go_wp2_with fail
        refine KW1.out.mono ?_
        rintro e w3 ⟨rfl, m3, c3⟩
        have M3 := Lib.hid (HA.out.stepped ⟨rfl, m3, c3⟩ (v := .int .u64 0) (e := .returned (.int .u64 0))); clear m3 c3
        go_wp2_with fail
        go_ret
        exact ⟨rfl, M3.out.2.1.weak (fun k a => .inl a), C1.out.trans M3.out.2.2⟩
      · have HST := Lib.hid (show OutAt V F root at_ (j + 1) (xs ++ [a]) from adrs_step HO.out (by rw [← HX.out]; exact ht))
        rw [ht, lfVal_some] at KW1
        have KW1 := Lib.hid KW1
        clear ht
        go_wp2_with fail
        refine KM.out.mono ?_
        rintro e w' ⟨rfl, rfl⟩
        go_wp2_with fail
        refine KW1.out.mono ?_
        rintro e w3 ⟨rfl, m3, c3⟩
        have M3 := Lib.hid (HA.out.stepped ⟨rfl, m3, c3⟩ (v := .int .u64 0) (e := .returned (.int .u64 0))); clear m3 c3
        have hU9 := M3.out.1
        have hszz : w1.heap.size ≤ w3.heap.size := M3.out.2.2.size
        clear t1 t2
        go_wp2_with (at_builtin; refine wpList_append_own_at _ rfl (.tmp 42) (.tmp 44) 119 rfl w1.heap.size 26 i0 (.int .u64 0) 1 8 Tryz.underlying119 hi hz0 hz1 hz2 rfl (by decide) _ _ _ rfl (hU9.alloc _) ⟨w3.heap.size, 0, none⟩ 1 1 [.int .u64 (a : Nat)] rfl rfl (cell_one_new _ _ _) (by simp [Value.oneCell']) km kb (by simp; omega) ?_; intro v' w6 hown1 hgrow1 _ hat1; have HN2 := Lib.hid (M3.out.next (Nat.le_refl _) hown1 hgrow1 hat1); clear hown1 hgrow1 hat1)
        go_roundw
        case rel => exact ⟨_, xs ++ [a], j + 1, rfl, by omega, by go_num, HN2, HST⟩
        case measure => simp [intOf]; omega
    · obtain rfl : j = n := by omega
      have h1 := HN.out.2
      have h2 : adrs V F root at_ 2 j = some xs := HO.out
      rw [h1] at h2
      cases h2
end Go.Proofs.YtijooajhjcfneaaGreat
