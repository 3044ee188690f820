/-
  Several texts in one: PhBase, PhActs, RefMem1, RefMem2, RefMem3, TyLaw, TyWalk1.
-/
import Derived.Test.YtijooajhjcfneaaGreatG2
import Derived.Laws.BitsAllLaws
namespace Go.Proofs.YtijooajhjcfneaaGreat
open Go.RowKit

theorem u64_nat' {a : Int} (h : (Lit.int .u64 a).wf = true) : ∃ n : Nat, a = (n : Int) ∧ n < 18446744073709551616 := by
  simp [Lit.wf, IntKind.min, IntKind.max, IntKind.signed, IntKind.bits] at h
  exact ⟨a.toNat, by omega, by omega⟩

theorem byt_memStr (V : Nat → Nat) (hV : ∀ i, V i < 256) (a n j : Nat) (hj : j < n) : byt (memStr V a n) j = V (a + j) := by
  unfold byt memStr
  rw [strOfNums_data]
  have := hV (a + j)
  simp [List.getD, hj]
  omega
theorem wOf_one (V : Nat → Nat) (hV : ∀ i, V i < 256) (a : Nat) : wOf (memStr V a 1) = V a := by
  unfold wOf
  rw [memStr_size, show min 1 8 = 1 from rfl, wOfN, wOfN, byt_memStr V hV a 1 0 (by omega)]
  simp
theorem stV_small (F : Nat) (V : Nat → Nat) (at_ : Nat) (n : Int) (v : Nat) (h : ∀ i, V i < 256) : ∀ i, stV F V at_ n v i < 256 := by
  intro i; unfold stV; split; exact putV_small h (byt_lt _) i; exact h i
theorem tc_lt (F at_ : Nat) (n : Int) (t : Nat) (h : t < 18446744073709551616) : tc F at_ n t < 18446744073709551616 := by
  unfold tc; split; exact Nat.mod_lt _ (by omega); exact h

/-- a memory, however often touched -/
def MT (B : Nat) (w : World) (p F : Nat) (V : Nat → Nat) : Prop := ∃ t, t < 18446744073709551616 ∧ MS B w p F V t
def StepT (B : Nat) (w : World) (p F : Nat) (V : Nat → Nat) (v : Value) (e : Ending) (w' : World) : Prop := e = .returned v ∧ MT B w' p F V ∧ Below B w w'
theorem x_load {B : Nat} {w : World} {p F : Nat} {V : Nat → Nat} (h : MT B w p F V) (hF : F ≤ 256) (at_ : Nat) (hw : at_ < 18446744073709551616) (n : Int) :
    Calls Tryz.prog 57 #[.pointer (some ⟨p, 0, none⟩), .int .u64 at_, .int .i64 n] w (StepT B w p F V (.tuple #[.int .u64 (ldV F V at_ n : Nat), .int .i64 (cdL F at_ n)])) := by
  obtain ⟨t, ht, hm⟩ := h
  exact (s_load hm hF ht at_ hw n).mono fun _ _ ⟨h1, h2, h3⟩ => ⟨h1, ⟨_, tc_lt _ _ _ _ ht, h2⟩, h3⟩
theorem x_store {B : Nat} {w : World} {p F : Nat} {V : Nat → Nat} (h : MT B w p F V) (hF : F ≤ 256) (at_ : Nat) (hw : at_ < 18446744073709551616) (n : Int) (v : Nat) (hv : v < 18446744073709551616) :
    Calls Tryz.prog 83 #[.pointer (some ⟨p, 0, none⟩), .int .u64 at_, .int .i64 n, .int .u64 v] w (StepT B w p F (stV F V at_ n v) (.int .i64 (cdL F at_ n))) := by
  obtain ⟨t, ht, hm⟩ := h
  exact (s_store hm hF ht at_ hw n v hv).mono fun _ _ ⟨h1, h2, h3⟩ => ⟨h1, ⟨_, tc_lt _ _ _ _ ht, h2⟩, h3⟩

theorem cdL_cases (F at_ : Nat) (n : Int) : cdL F at_ n = 0 ∧ (n = 1 ∨ n = 2 ∨ n = 4 ∨ n = 8) ∧ at_ + n.toNat ≤ F * 256 ∨ cdL F at_ n = 1 ∧ wSized n = false ∨ cdL F at_ n = 3 := by
  unfold cdL
  by_cases h : wSized n = true
  · rw [if_pos h]
    have := wSized_le h
    by_cases h2 : at_ + n.toNat ≤ F * 256
    · rw [if_pos h2]; exact .inl ⟨rfl, this, h2⟩
    · rw [if_neg h2]; exact .inr (.inr rfl)
  · rw [if_neg h]; exact .inr (.inl ⟨rfl, by simpa using h⟩)

end Go.Proofs.YtijooajhjcfneaaGreat

namespace Go.Proofs.YtijooajhjcfneaaGreat
open Go.RowKit

theorem MT.small {B : Nat} {w : World} {p F : Nat} {V : Nat → Nat} (h : MT B w p F V) : ∀ i, V i < 256 := by
  obtain ⟨t, _, o, hm, _⟩ := h
  exact hm.small
theorem x_get {B : Nat} {w : World} {p F : Nat} {V : Nat → Nat} (h : MT B w p F V) (hF : F ≤ 256) (at_ : Nat) (hw : at_ < 18446744073709551616) (n : Int) (hn : n ≤ 9223372036854775807) :
    Calls Tryz.prog 15 #[.pointer (some ⟨p, 0, none⟩), .int .u64 at_, .int .i64 n] w (StepT B w p F V (.tuple #[.string (gtS F V at_ n), .int .i64 (cdG F at_ n)])) := by
  obtain ⟨t, ht, hm⟩ := h
  exact (s_get hm hF at_ hw n hn).mono fun _ _ ⟨h1, h2, h3⟩ => ⟨h1, ⟨_, ht, h2⟩, h3⟩
theorem x_getI {B : Nat} {w : World} {p F : Nat} {V : Nat → Nat} (h : MT B w p F V) (hF : F ≤ 256) (at_ : Nat) (hw : at_ < 18446744073709551616) (n : Int) (hn : n ≤ 9223372036854775807) (x : Int) (hx : x = (at_ : Int)) :
    Calls Tryz.prog 15 #[.pointer (some ⟨p, 0, none⟩), .int .u64 x, .int .i64 n] w (StepT B w p F V (.tuple #[.string (gtS F V at_ n), .int .i64 (cdG F at_ n)])) := by
  subst hx; exact x_get h hF at_ hw n hn
theorem x_put {B : Nat} {w : World} {p F : Nat} {V : Nat → Nat} (h : MT B w p F V) (hF : F ≤ 256) (at_ : Nat) (hw : at_ < 18446744073709551616) (s : ByteArray) (hs : s.size ≤ maxLen) :
    Calls Tryz.prog 44 #[.pointer (some ⟨p, 0, none⟩), .int .u64 at_, .string s] w (StepT B w p F (ptV F V at_ s) (.int .i64 (cdP F at_ s))) := by
  obtain ⟨t, ht, hm⟩ := h
  exact (s_put hm hF at_ hw s hs).mono fun _ _ ⟨h1, h2, h3⟩ => ⟨h1, ⟨_, ht, h2⟩, h3⟩
theorem x_clear {B : Nat} {w : World} {p F : Nat} {V : Nat → Nat} (h : MT B w p F V) (hF : F ≤ 256) (f : Int) :
    Calls Tryz.prog 32 #[.pointer (some ⟨p, 0, none⟩), .int .i64 f] w (StepT B w p F (clV F V f) (.int .i64 (cdF F f))) := by
  obtain ⟨t, ht, hm⟩ := h
  exact (s_clear hm hF f).mono fun _ _ ⟨h1, h2, h3⟩ => ⟨h1, ⟨_, ht, h2⟩, h3⟩
/-- within the loop that puts -/
def PutAt (w : World) (p F : Nat) (wr : World) : Prop := ∃ V, MT w.heap.size wr p F V ∧ Below w.heap.size w wr

theorem memStr_congr {V V' : Nat → Nat} {a a' n : Nat} (h : ∀ i, i < n → V (a + i) = V' (a' + i)) : memStr V a n = memStr V' a' n := by
  unfold memStr
  congr 1
  apply List.map_congr_left
  intro i hi
  rw [h i (by simpa using hi)]
theorem below_drewN {B : Nat} {a w : World} (h : Below B a w) (n : Nat) : Below B a (w.drewN n) := ⟨h.os, h.tape, h.output, h.size, h.block⟩
theorem MT.drewN {B : Nat} {w : World} {p F : Nat} {V : Nat → Nat} (h : MT B w p F V) (n : Nat) : MT B (w.drewN n) p F V := by
  obtain ⟨t, ht, o, hm, hB⟩ := h
  exact ⟨t, ht, o, hm.chg (S := fun _ => False) ((Chg.refl _ _).drewN n) (fun _ _ h => h), hB⟩
theorem MT.drew {B : Nat} {w : World} {p F : Nat} {V : Nat → Nat} (h : MT B w p F V) : MT B w.drew p F V := by
  obtain ⟨t, ht, o, hm, hB⟩ := h
  exact ⟨t, ht, o, hm.chg (S := fun _ => False) (Chg.refl _ _).drew (fun _ _ h => h), hB⟩
end Go.Proofs.YtijooajhjcfneaaGreat

namespace Go.Proofs.YtijooajhjcfneaaGreat
open Go.RowKit

abbrev RmT : TypeId := 53
/-- the document's memory of F frames -/
structure RM (w : World) (r g F : Nat) (V : Nat → Nat) (t : Nat) : Prop where
  blk : Blk w r #[memS g F, .int .u64 t] RmT
  row : Row w g (F * 256) V
  ne : r ≠ g
  small : ∀ i, V i < 256
theorem RM.chg {S : Nat → Prop} {w w' : World} {r g F t : Nat} {V : Nat → Nat} (h : RM w r g F V t) (c : Chg S w w') (hn : ¬ S r) (hm : ¬ S g) : RM w' r g F V t :=
  ⟨c.blk h.blk hn, h.row.chg c hm, h.ne, h.small⟩
theorem RM.touched {w : World} {r g F t t' : Nat} {V : Nat → Nat} (h : RM w r g F V t) : RM (w.setCell ⟨r, 1, none⟩ (.int .u64 t')) r g F V t' ∧ Chg (fun k => k = r) w (w.setCell ⟨r, 1, none⟩ (.int .u64 t')) := by
  have c : Chg (fun k => k = r) w (w.setCell ⟨r, 1, none⟩ (.int .u64 t')) := (Chg.refl _ _).setCell _ _ (.inl rfl)
  exact ⟨⟨h.blk.set 1 _, h.row.chg c (fun e => h.ne e.symm), h.ne, h.small⟩, c⟩
/-- what a call on it leaves -/
def RmK (w : World) (r g F t : Nat) (V : Nat → Nat) (v : Value) (e : Ending) (w' : World) : Prop := e = .returned v ∧ RM w' r g F V t ∧ Chg (fun k => k = r ∨ k = g) w w'

theorem row_string (w : World) (g N : Nat) (V : Nat → Nat) (h : Row w g N V) (off at_ n cap : Nat) (ho : 0 < n → off = at_) (hfit : at_ + n ≤ N) :
    (convert 51 9 (.slice (some ⟨g, off, none⟩) n cap)).run Tryz.prog w = .ok (.string (memStr V at_ n)) w := by
  by_cases h0 : n = 0
  · subst h0
    rw [run_convert_bytes_zero w _ ByT Tryz.underlying51 Tryz.underlying5 _ _ 9 Tryz.underlying9]
    rfl
  · obtain rfl := ho (by omega)
    obtain ⟨cs, hb, hs, hv⟩ := h
    refine run_convert_bytes_arg w 51 ByT Tryz.underlying51 Tryz.underlying5 g off n cap _ (by simp) (fun i hi => ?_) 9 Tryz.underlying9
    rw [hb.cell, hv _ (by omega)]
    simp [List.getD, hi]

theorem ref_new (w : World) (F : Nat) (hF : F ≤ 256) :
    Calls Tryz.prog 11 #[.int .i64 F] w fun e w' => e = .returned (.pointer (some ⟨w.heap.size + 1, 0, none⟩)) ∧ RM w' (w.heap.size + 1) w.heap.size F (fun _ => 0) 0 ∧ Chg (fun _ => False) w w' ∧ w'.heap.size = w.heap.size + 2 := by
  have hw : wrap64 ((F : Int) * 256) = (F : Int) * 256 := by unfold wrap64; omega
  have hmk := fun W => make_frames W F hF
  go_enter Tryz.func11, Tryz.ntmps11
  go_wp2_with fail
  go_ret
  have e : (w.alloc (.cells (zeros (F * 256)) ByT)).heap.size = w.heap.size + 1 := by simp
  refine ⟨by simp, ⟨?_, ?_, by omega, fun _ => by omega⟩, ((Chg.refl _ w).alloc _).alloc _, by simp⟩
  · rw [← e]; exact Blk.new _ _ _
  · exact (row_zeros w (F * 256)).chg ((Chg.refl (fun _ => False) _).alloc _) (fun h => h)

theorem ref_sized (w : World) (n : Int) :
    Calls Tryz.prog 88 #[.int .i64 n] w fun e w' => e = .returned (.bool (wSized n)) ∧ w = w' := by
  obtain ⟨c, hc⟩ : ∃ c, c = wSized n := ⟨_, rfl⟩
  rw [← hc]
  have HC := Lib.hid hc; clear hc
  go_enter Tryz.func88, Tryz.ntmps88
  go_wp2_with fail
  all_goals
    go_ret
    have hc := HC.out
    exact ⟨ret_bool (by rw [hc]; unfold wSized; first | (simp_all; done) | rfl), rfl⟩

theorem ref_there (w : World) (r g F t : Nat) (hF : F ≤ 256) (V : Nat → Nat) (h : RM w r g F V t) (at_ n : Nat) (hw : at_ < 18446744073709551616) (hn : n ≤ 9223372036854775807) :
    Calls Tryz.prog 89 #[.pointer (some ⟨r, 0, none⟩), .int .u64 at_, .int .i64 n] w fun e w' => e = .returned (.bool (decide (at_ + n ≤ F * 256))) ∧ w = w' := by
  have c0 : w.cell? ⟨r, 0, none⟩ = some (.slice (some ⟨g, 0, none⟩) (F * 256) (F * 256)) := h.blk.cellv 0 _ rfl
  have q0 : IntKind.u64.wrap ((F : Int) * 256) = (F : Int) * 256 := by rw [u64_wrap]; omega
  have q1 : IntKind.u64.wrap (n : Int) = (n : Int) := by rw [u64_wrap]; omega
  clear h
  by_cases h1 : at_ ≤ F * 256
  · have d1 : decide ((at_ : Int) ≤ (F : Int) * 256) = true := decide_eq_true (by omega)
    have q2 : IntKind.u64.wrap ((F : Int) * 256 - (at_ : Int)) = (F : Int) * 256 - (at_ : Int) := by rw [u64_wrap]; omega
    by_cases h2 : at_ + n ≤ F * 256
    · have d2 : decide ((n : Int) ≤ (F : Int) * 256 - (at_ : Int)) = true := decide_eq_true (by omega)
      have HH := Lib.hid h2; clear h2
      go_enter Tryz.func89, Tryz.ntmps89
      go_wp2_with fail
      go_ret
      exact ⟨ret_bool (by rw [decide_eq_true HH.out]), rfl⟩
    · have d2 : decide ((n : Int) ≤ (F : Int) * 256 - (at_ : Int)) = false := decide_eq_false (by omega)
      have HH := Lib.hid h2; clear h2
      go_enter Tryz.func89, Tryz.ntmps89
      go_wp2_with fail
      go_ret
      exact ⟨ret_bool (by rw [decide_eq_false HH.out]), rfl⟩
  · have d1 : decide ((at_ : Int) ≤ (F : Int) * 256) = false := decide_eq_false (by omega)
    have HH := Lib.hid (show ¬ at_ + n ≤ F * 256 by omega)
    go_enter Tryz.func89, Tryz.ntmps89
    go_wp2_with fail
    go_ret
    exact ⟨ret_bool (by rw [decide_eq_false HH.out]), rfl⟩

end Go.Proofs.YtijooajhjcfneaaGreat

namespace Go.Proofs.YtijooajhjcfneaaGreat
open Go.RowKit

theorem RM.put1 {w : World} {r g F t at_ k : Nat} {V f : Nat → Nat} {x : Int} (h : RM w r g F (putV V at_ k f) t) (hk : at_ + k < F * 256) (hf : ∀ i, f i < 256) (hV : ∀ i, V i < 256) (hx : x = (f k : Nat)) :
    RM (w.setCell ⟨g, at_ + k, none⟩ (.int .u8 x)) r g F (putV V at_ (k + 1) f) t ∧ Chg (fun i => i = r ∨ i = g) w (w.setCell ⟨g, at_ + k, none⟩ (.int .u8 x)) := by
  subst hx
  have c : Chg (fun i => i = g) w (w.setCell ⟨g, at_ + k, none⟩ (.int .u8 (f k : Nat))) := (Chg.refl _ _).setCell _ _ (.inl rfl)
  refine ⟨⟨c.blk h.blk h.ne, (h.row.set (at_ + k) (f k) hk).congr fun i hi => ?_, h.ne, putV_small hV hf⟩, c.mono fun _ h => .inr h⟩
  unfold putV
  by_cases e : i = at_ + k
  · subst e
    rw [if_pos rfl, if_pos (by omega)]; congr 1; omega
  · rw [if_neg e]
    by_cases e2 : at_ ≤ i ∧ i < at_ + k
    · rw [if_pos e2, if_pos (by omega)]
    · rw [if_neg e2, if_neg (by omega)]

set_option maxHeartbeats 800000 in
theorem rm_load (w : World) (r g F t : Nat) (hF : F ≤ 256) (_ht : t < 18446744073709551616) (V : Nat → Nat) (h : RM w r g F V t) (at_ : Nat) (hw : at_ < 18446744073709551616) (n : Int) :
    Calls Tryz.prog 74 #[.pointer (some ⟨r, 0, none⟩), .int .u64 at_, .int .i64 n] w (RmK w r g F (tc F at_ n t) V (.tuple #[.int .u64 (ldV F V at_ n : Nat), .int .i64 (cdL F at_ n)])) := by
  have HZ := Lib.hid (ref_sized w n)
  by_cases hs : wSized n = true
  · rw [hs] at HZ
    have hn := wSized_le hs
    obtain ⟨m, rfl⟩ := Int.eq_ofNat_of_zero_le (show 0 ≤ n by omega)
    have HT := Lib.hid (ref_there w r g F t hF V h at_ m hw (by omega))
    by_cases hf : at_ + m ≤ F * 256
    · have e : cdL F at_ (m : Int) = 0 := by simp [cdL, hs, hf]
      simp only [ldV, tc, e, if_true, Int.toNat_natCast]
      rw [decide_eq_true hf] at HT
      obtain ⟨x, hx⟩ : ∃ x : Int, x = (((t + 1) % 18446744073709551616 : Nat) : Int) := ⟨_, rfl⟩
      have c0 : w.cell? ⟨r, 0, none⟩ = some (.slice (some ⟨g, 0, none⟩) (F * 256) (F * 256)) := h.blk.cellv 0 _ rfl
      have c1 : w.cell? ⟨r, 1, none⟩ = some (.int .u64 t) := h.blk.cellv 1 _ rfl
      have f1 := h.blk.free 1
      obtain ⟨h2, k2⟩ := h.touched (t' := (t + 1) % 18446744073709551616)
      rw [← hx] at h2 k2
      have c0' : (w.setCell ⟨r, 1, none⟩ (.int .u64 x)).cell? ⟨r, 0, none⟩ = some (.slice (some ⟨g, 0, none⟩) (F * 256) (F * 256)) := h2.blk.cellv 0 _ rfl
      have q3 : IntKind.u64.wrap ((t : Int) + 1) = x := by rw [u64_wrap, hx]; omega
      have hcv := row_string _ g (F * 256) V h2.row at_ at_ m (F * 256 - at_) (fun _ => rfl) hf
      have q1 : IntKind.u64.wrap (m : Int) = (m : Int) := by rw [u64_wrap]; omega
      have q2 : IntKind.u64.wrap ((at_ : Int) + (m : Int)) = (at_ : Int) + (m : Int) := by rw [u64_wrap]; omega
      have HO := fun W => Lib.hid (ref_of W (memStr V at_ m) (by rw [memStr_size]; unfold maxLen; omega))
      have HO' := Lib.hid HO
      generalize wOf (memStr V at_ m) = q at *
      generalize memStr V at_ m = s at *
      have HK := Lib.hid (And.intro h2 (k2.mono (S' := fun k => k = r ∨ k = g) fun _ h => .inl h)); have m1 : 0 < m := by omega
      have m2 : at_ < F * 256 := by omega
      clear h h2 k2 e hs hn hx HO
      go_enter Tryz.func74, Tryz.ntmps74
      go_wp2_with fail
      refine HZ.out.mono ?_
      rintro e w' ⟨rfl, rfl⟩
      go_wp2_with fail
      refine HT.out.mono ?_
      rintro e w' ⟨rfl, rfl⟩
      go_wp2_with fail
      refine (HO'.out _).out.mono ?_
      rintro e w' ⟨rfl, rfl⟩
      go_wp2_with fail
      go_ret2
      exact ⟨rfl, HK.out⟩
    · have e : cdL F at_ (m : Int) = 3 := by simp [cdL, hs, hf]
      simp only [ldV, tc, e]
      rw [decide_eq_false hf] at HT
      have HH := Lib.hid h
      clear h hf e hs hn
      go_enter Tryz.func74, Tryz.ntmps74
      go_wp2_with fail
      refine HZ.out.mono ?_
      rintro e w' ⟨rfl, rfl⟩
      go_wp2_with fail
      refine HT.out.mono ?_
      rintro e w' ⟨rfl, rfl⟩
      go_wp2_with fail
      go_ret2
      exact ⟨rfl, HH.out, Chg.refl _ _⟩
  · have e : cdL F at_ n = 1 := by simp [cdL, hs]
    simp only [ldV, tc, e]
    rw [show wSized n = false by simpa using hs] at HZ
    have HH := Lib.hid h
    clear h e hs
    go_enter Tryz.func74, Tryz.ntmps74
    go_wp2_with fail
    refine HZ.out.mono ?_
    rintro e w' ⟨rfl, rfl⟩
    go_wp2_with fail
    go_ret2
    exact ⟨rfl, HH.out, Chg.refl _ _⟩

set_option maxHeartbeats 1600000 in
theorem rm_put (w : World) (r g F t : Nat) (hF : F ≤ 256) (V : Nat → Nat) (h : RM w r g F V t) (at_ : Nat) (hw : at_ < 18446744073709551616) (s : ByteArray) (hs : s.size ≤ maxLen) :
    Calls Tryz.prog 90 #[.pointer (some ⟨r, 0, none⟩), .int .u64 at_, .string s] w (RmK w r g F t (ptV F V at_ s) (.int .i64 (cdP F at_ s))) := by
  have hs2 : s.size ≤ 9223372036854775807 := by unfold maxLen at hs; omega
  have HT := Lib.hid (ref_there w r g F t hF V h at_ s.size hw hs2)
  by_cases hf : at_ + s.size ≤ F * 256
  · have e : cdP F at_ s = 0 := by simp [cdP, hf]
    simp only [ptV, e, if_true]
    rw [decide_eq_true hf] at HT
    have HV := Lib.hid h.small
    have HR := Lib.hid (show RM w r g F (putV V at_ 0 (byt s)) t by rw [putV_none]; exact h)
    have HF := Lib.hid (And.intro hf hF)
    clear h hf e hF hw hs
    go_enter Tryz.func90, Tryz.ntmps90
    go_wp2_with fail
    refine HT.out.mono ?_
    rintro e w' ⟨rfl, rfl⟩
    go_wp2_with fail
    go_loopw [8] (fun i wr => ∃ k : Nat, k ≤ s.size ∧ i = .int .i64 k ∧ Hid (RM wr r g F (putV V at_ k (byt s)) t ∧ Chg (fun i => i = r ∨ i = g) w wr)) (fun i _ => s.size - (intOf i).toNat)
    case atStart => exact ⟨0, Nat.zero_le _, rfl, HR.out, Chg.refl _ _⟩
    case round =>
      obtain ⟨k, hk, rfl, HB⟩ := hrel
      obtain ⟨hM, hC⟩ := HB.out
      have hff := HF.out
      by_cases hlt : k < s.size
      · have c0 : wr.cell? ⟨r, 0, none⟩ = some (.slice (some ⟨g, 0, none⟩) (F * 256) (F * 256)) := hM.blk.cellv 0 _ rfl
        obtain ⟨yo, cg⟩ : ∃ y, wr.cell? ⟨g, at_ + k, none⟩ = some y := by obtain ⟨cs, hb, _, hv⟩ := hM.row; exact ⟨_, hb.cellv _ _ (hv _ (by omega))⟩
        have fg : wr.frozen? ⟨g, at_ + k, none⟩ = false := by obtain ⟨cs, hb, _, _⟩ := hM.row; exact hb.free _
        have q1 : IntKind.u64.wrap (k : Int) = (k : Int) := by rw [u64_wrap]; omega
        have q2 : IntKind.u64.wrap ((at_ : Int) + (k : Int)) = (at_ : Int) + (k : Int) := by rw [u64_wrap]; omega
        have d1 : (0 : Int) ≤ (at_ : Int) + (k : Int) := by omega
        have d2 : (at_ : Int) + (k : Int) < (F : Int) * 256 := by omega
        have d3 : ((at_ : Int) + (k : Int)).toNat = at_ + k := by omega
        have d4 : at_ + k < F * 256 := by omega
        obtain ⟨ws, hws⟩ : ∃ ws, ws = wr.setCell ⟨g, at_ + k, none⟩ (.int .u8 ((s[k].toNat : Nat) : Int)) := ⟨_, rfl⟩
        have hP := hM.put1 (x := ((s[k].toNat : Nat) : Int)) d4 (byt_lt s) HV.out (by rw [byt_get s k hlt])
        have HP := Lib.hid hP
        have HC := Lib.hid hC
        clear hM hC hff HB hP hws
        go_wp2_with fail
        go_region
        all_goals
          go_wp2_with fail
          go_roundw
          case rel => exact ⟨k + 1, by omega, by go_num, ⟨HP.out.1.chg (S := fun _ => False) (Chg.refl _ _).drew (fun h => h) (fun h => h), (HC.out.trans HP.out.2).drew⟩⟩
          case measure => simp [intOf]; omega
      · obtain rfl : k = s.size := by omega
        have HE := Lib.hid (And.intro hM hC)
        clear hM hC hff HB
        go_wp2_with fail
        go_ret
        exact ⟨rfl, HE.out⟩
  · have e : cdP F at_ s = 3 := by simp [cdP, hf]
    simp only [ptV, e]
    rw [decide_eq_false hf] at HT
    have HH := Lib.hid h
    clear h hf e
    go_enter Tryz.func90, Tryz.ntmps90
    go_wp2_with fail
    refine HT.out.mono ?_
    rintro e w' ⟨rfl, rfl⟩
    go_wp2_with fail
    go_ret
    exact ⟨rfl, HH.out, Chg.refl _ _⟩

set_option maxHeartbeats 800000 in
theorem rm_store (w : World) (r g F t : Nat) (hF : F ≤ 256) (_ht : t < 18446744073709551616) (V : Nat → Nat) (h : RM w r g F V t) (at_ : Nat) (hw : at_ < 18446744073709551616) (n : Int) (v : Nat) (hv : v < 18446744073709551616) :
    Calls Tryz.prog 64 #[.pointer (some ⟨r, 0, none⟩), .int .u64 at_, .int .i64 n, .int .u64 v] w (RmK w r g F (tc F at_ n t) (stV F V at_ n v) (.int .i64 (cdL F at_ n))) := by
  have HZ := Lib.hid (ref_sized w n)
  by_cases hs : wSized n = true
  · rw [hs] at HZ
    have hn := wSized_le hs
    obtain ⟨m, rfl⟩ := Int.eq_ofNat_of_zero_le (show 0 ≤ n by omega)
    have HT := Lib.hid (ref_there w r g F t hF V h at_ m hw (by omega))
    by_cases hf : at_ + m ≤ F * 256
    · have e : cdL F at_ (m : Int) = 0 := by simp [cdL, hs, hf]
      simp only [stV, tc, e, if_true, Int.toNat_natCast]
      rw [decide_eq_true hf] at HT
      obtain ⟨x, hx⟩ : ∃ x : Int, x = (((t + 1) % 18446744073709551616 : Nat) : Int) := ⟨_, rfl⟩
      have c1 : w.cell? ⟨r, 1, none⟩ = some (.int .u64 t) := h.blk.cellv 1 _ rfl
      have f1 := h.blk.free 1
      obtain ⟨h2, k2⟩ := h.touched (t' := (t + 1) % 18446744073709551616)
      rw [← hx] at h2 k2
      have q3 : IntKind.u64.wrap ((t : Int) + 1) = x := by rw [u64_wrap, hx]; omega
      have HO := fun W => Lib.hid (ref_bytes W v hv (m : Int))
      have hsz : (wBytes v (m : Int)).size = m := by rw [wBytes_size]; unfold wCount; omega
      generalize wBytes v (m : Int) = q at *
      have HP := fun W (H : RM W r g F V ((t + 1) % 18446744073709551616)) => Lib.hid (rm_put W r g F _ hF V H at_ hw q (by unfold maxLen; omega))
      have hcp : cdP F at_ q = 0 := by unfold cdP; rw [if_pos (by omega)]
      have hpv : ptV F V at_ q = putV V at_ m (byt q) := by unfold ptV; rw [if_pos hcp, hsz]
      rw [hcp, hpv] at HP
      have HO' := Lib.hid HO; have HP' := Lib.hid HP
      have HK := Lib.hid (And.intro h2 (k2.mono (S' := fun k => k = r ∨ k = g) fun _ h => .inl h))
      clear h h2 k2 e hs hn hx HO HP hsz hcp hpv hf
      go_enter Tryz.func64, Tryz.ntmps64
      go_wp2_with fail
      refine HZ.out.mono ?_
      rintro e w' ⟨rfl, rfl⟩
      go_wp2_with fail
      refine HT.out.mono ?_
      rintro e w' ⟨rfl, rfl⟩
      go_wp2_with fail
      refine (HO'.out _).out.mono ?_
      rintro e w1 ⟨rfl, b1⟩
      have B1 := Lib.hid b1; clear b1
      go_wp2_with fail
      refine (HP'.out w1 (HK.out.1.chg B1.out (fun h => h) (fun h => h))).out.mono ?_
      rintro e w2 ⟨rfl, m2, b2⟩
      have B2 := Lib.hid (And.intro m2 b2); clear m2 b2
      go_wp2_with fail
      go_ret
      exact ⟨rfl, B2.out.1, HK.out.2.trans ((B1.out.mono (fun _ h => h.elim)).trans B2.out.2)⟩
    · have e : cdL F at_ (m : Int) = 3 := by simp [cdL, hs, hf]
      simp only [stV, tc, e]
      rw [decide_eq_false hf] at HT
      have HH := Lib.hid h
      clear h hf e hs hn
      go_enter Tryz.func64, Tryz.ntmps64
      go_wp2_with fail
      refine HZ.out.mono ?_
      rintro e w' ⟨rfl, rfl⟩
      go_wp2_with fail
      refine HT.out.mono ?_
      rintro e w' ⟨rfl, rfl⟩
      go_wp2_with fail
      go_ret
      exact ⟨rfl, HH.out, Chg.refl _ _⟩
  · have e : cdL F at_ n = 1 := by simp [cdL, hs]
    simp only [stV, tc, e]
    rw [show wSized n = false by simpa using hs] at HZ
    have HH := Lib.hid h
    clear h e hs
    go_enter Tryz.func64, Tryz.ntmps64
    go_wp2_with fail
    refine HZ.out.mono ?_
    rintro e w' ⟨rfl, rfl⟩
    go_wp2_with fail
    go_ret
    exact ⟨rfl, HH.out, Chg.refl _ _⟩
end Go.Proofs.YtijooajhjcfneaaGreat

namespace Go.Proofs.YtijooajhjcfneaaGreat
open Go.RowKit

set_option maxRecDepth 100000 in
set_option maxHeartbeats 1600000 in
theorem rm_copy_no (w : World) (r g F t : Nat) (hF : F ≤ 256) (V : Nat → Nat) (h : RM w r g F V t) (a b : Int) (hab : a < 0 ∨ (F : Int) ≤ a ∨ (F : Int) ≤ b) :
    Calls Tryz.prog 33 #[.pointer (some ⟨r, 0, none⟩), .int .i64 a, .int .i64 b] w fun e w' => e = .returned (.int .i64 3) ∧ w = w' := by
  have c0 : w.cell? ⟨r, 0, none⟩ = some (.slice (some ⟨g, 0, none⟩) (F * 256) (F * 256)) := h.blk.cellv 0 _ rfl
  have q0 : ((F : Int) * 256).tdiv 256 = (F : Int) := Int.mul_tdiv_cancel _ (by decide)
  have q1 : wrap64 (F : Int) = (F : Int) := by unfold wrap64; omega
  clear h
  by_cases h1 : a < 0
  · have d1 : decide (a < (0 : Int)) = true := decide_eq_true h1
    go_enter Tryz.func33, Tryz.ntmps33
    go_wp2_with fail
    go_ret
    exact ⟨rfl, rfl⟩
  · have d1 : decide (a < (0 : Int)) = false := decide_eq_false h1
    by_cases h2 : (F : Int) ≤ a
    · have d2 : decide ((F : Int) ≤ a) = true := decide_eq_true h2
      clear h1
      go_enter Tryz.func33, Tryz.ntmps33
      go_wp2_with fail
      go_ret
      exact ⟨rfl, rfl⟩
    · have d2 : decide ((F : Int) ≤ a) = false := decide_eq_false h2
      have h3 : (F : Int) ≤ b := by omega
      have d3 : decide ((F : Int) ≤ b) = true := decide_eq_true h3
      clear h1 h2 hab
      go_enter Tryz.func33, Tryz.ntmps33
      go_wp2_with fail
      go_ret
      exact ⟨rfl, rfl⟩

/-- one frame's bytes, whatever they come from -/
theorem RM.cellg {w : World} {r g F t : Nat} {V : Nat → Nat} (h : RM w r g F V t) (i : Nat) (hi : i < F * 256) : w.cell? ⟨g, i, none⟩ = some (.int .u8 (V i : Nat)) := by
  obtain ⟨cs, hb, _, hv⟩ := h.row; exact hb.cellv _ _ (hv _ hi)
theorem RM.freeg {w : World} {r g F t : Nat} {V : Nat → Nat} (h : RM w r g F V t) (i : Nat) : w.frozen? ⟨g, i, none⟩ = false := by
  obtain ⟨cs, hb, _, _⟩ := h.row; exact hb.free _

set_option maxRecDepth 100000 in
set_option maxHeartbeats 1600000 in
theorem rm_copy_yes (w : World) (r g F t : Nat) (hF : F ≤ 256) (V : Nat → Nat) (h : RM w r g F V t) (a b : Nat) (ha : a < F) (hb : b < F) :
    Calls Tryz.prog 33 #[.pointer (some ⟨r, 0, none⟩), .int .i64 a, .int .i64 b] w (RmK w r g F t (putV V (a * 256) 256 (fun i => V (b * 256 + i))) (.int .i64 0)) := by
  have c0 : w.cell? ⟨r, 0, none⟩ = some (.slice (some ⟨g, 0, none⟩) (F * 256) (F * 256)) := h.blk.cellv 0 _ rfl
  have q0 : ((F : Int) * 256).tdiv 256 = (F : Int) := Int.mul_tdiv_cancel _ (by decide)
  have q1 : wrap64 (F : Int) = (F : Int) := by unfold wrap64; omega
  have d1 : decide ((a : Int) < 0) = false := decide_eq_false (by omega)
  have d2 : decide ((F : Int) ≤ (a : Int)) = false := decide_eq_false (by omega)
  have d3 : decide ((F : Int) ≤ (b : Int)) = false := decide_eq_false (by omega)
  have d4 : ¬ F ≤ a := by omega
  have d5 : ¬ F ≤ b := by omega
  have q4 : wrap64 ((a : Int) * 256) = (a : Int) * 256 := by unfold wrap64; omega
  have q5 : wrap64 ((b : Int) * 256) = (b : Int) * 256 := by unfold wrap64; omega
  have HV := Lib.hid h.small
  have HR := Lib.hid (show RM w r g F (putV V (a * 256) 0 (fun i => V (b * 256 + i))) t by rw [putV_none]; exact h)
  have HF := Lib.hid (And.intro hF (And.intro ha hb))
  clear h hF ha hb
  go_enter Tryz.func33, Tryz.ntmps33
  go_wp2_with fail
  clear c0
  go_loopw [8] (fun i wr => ∃ k : Nat, k ≤ 256 ∧ i = .int .i64 k ∧ Hid (RM wr r g F (putV V (a * 256) k (fun i => V (b * 256 + i))) t ∧ Chg (fun i => i = r ∨ i = g) w wr)) (fun i _ => 256 - (intOf i).toNat)
  case atStart => exact ⟨0, Nat.zero_le _, rfl, HR.out, Chg.refl _ _⟩
  case round =>
    obtain ⟨k, hk, rfl, HB⟩ := hrel
    obtain ⟨hM, hC⟩ := HB.out
    have hff := HF.out
    by_cases hlt : k < 256
    · have c0 : wr.cell? ⟨r, 0, none⟩ = some (.slice (some ⟨g, 0, none⟩) (F * 256) (F * 256)) := hM.blk.cellv 0 _ rfl
      have fg := hM.freeg (a * 256 + k)
      have q6 : wrap64 ((a : Int) * 256 + (k : Int)) = (a : Int) * 256 + (k : Int) := by unfold wrap64; omega
      have q7 : wrap64 ((b : Int) * 256 + (k : Int)) = (b : Int) * 256 + (k : Int) := by unfold wrap64; omega
      have d6 : (0 : Int) ≤ (a : Int) * 256 + (k : Int) := by omega
      have d7 : (a : Int) * 256 + (k : Int) < (F : Int) * 256 := by omega
      have d8 : ((a : Int) * 256 + (k : Int)).toNat = a * 256 + k := by omega
      have d9 : (0 : Int) ≤ (b : Int) * 256 + (k : Int) := by omega
      have e7 : (b : Int) * 256 + (k : Int) < (F : Int) * 256 := by omega
      have e8 : ((b : Int) * 256 + (k : Int)).toNat = b * 256 + k := by omega
      have e9 : a * 256 + k < F * 256 := by omega
      have e10 : b * 256 + k < F * 256 := by omega
      have e1 : putV V (a * 256) k (fun i => V (b * 256 + i)) (b * 256 + k) = V (b * 256 + k) := by
        unfold putV
        rw [if_neg (by omega)]
      have cb := hM.cellg (b * 256 + k) e10
      rw [e1] at cb
      clear e1
      have ca := hM.cellg (a * 256 + k) e9
      generalize putV V (a * 256) k (fun i => V (b * 256 + i)) (a * 256 + k) = yo at ca
      have hP := hM.put1 (f := fun i => V (b * 256 + i)) (x := ((V (b * 256 + k) : Nat) : Int)) e9 (fun _ => HV.out _) HV.out rfl
      generalize V (b * 256 + k) = x at *
      have HP := Lib.hid hP
      have HC := Lib.hid hC
      clear hM hC hff HB hP
      go_wp2_with fail
      go_roundw
      case rel => exact ⟨k + 1, by omega, by go_num, HP.out.1, HC.out.trans HP.out.2⟩
      case measure => simp [intOf]; omega
    · obtain rfl : k = 256 := by omega
      have HE := Lib.hid (And.intro hM hC)
      clear hM hC hff HB
      go_wp2_with fail
      go_ret
      exact ⟨rfl, HE.out⟩

set_option maxRecDepth 100000 in
set_option maxHeartbeats 1600000 in
theorem rm_copy_clear (w : World) (r g F t : Nat) (hF : F ≤ 256) (V : Nat → Nat) (h : RM w r g F V t) (a : Nat) (ha : a < F) :
    Calls Tryz.prog 33 #[.pointer (some ⟨r, 0, none⟩), .int .i64 a, .int .i64 (-1)] w (RmK w r g F t (putV V (a * 256) 256 (fun _ => 0)) (.int .i64 0)) := by
  have c0 : w.cell? ⟨r, 0, none⟩ = some (.slice (some ⟨g, 0, none⟩) (F * 256) (F * 256)) := h.blk.cellv 0 _ rfl
  have q0 : ((F : Int) * 256).tdiv 256 = (F : Int) := Int.mul_tdiv_cancel _ (by decide)
  have q1 : wrap64 (F : Int) = (F : Int) := by unfold wrap64; omega
  have d1 : decide ((a : Int) < 0) = false := decide_eq_false (by omega)
  have d2 : decide ((F : Int) ≤ (a : Int)) = false := decide_eq_false (by omega)
  have d3 : decide ((F : Int) ≤ (-1 : Int)) = false := decide_eq_false (by omega)
  have d4 : ¬ F ≤ a := by omega
  have q4 : wrap64 ((a : Int) * 256) = (a : Int) * 256 := by unfold wrap64; omega
  have HV := Lib.hid h.small
  have HR := Lib.hid (show RM w r g F (putV V (a * 256) 0 (fun _ => 0)) t by rw [putV_none]; exact h)
  have HF := Lib.hid (And.intro hF ha)
  clear h hF ha
  go_enter Tryz.func33, Tryz.ntmps33
  go_wp2_with fail
  clear c0
  go_loopw [8] (fun i wr => ∃ k : Nat, k ≤ 256 ∧ i = .int .i64 k ∧ Hid (RM wr r g F (putV V (a * 256) k (fun _ => 0)) t ∧ Chg (fun i => i = r ∨ i = g) w wr)) (fun i _ => 256 - (intOf i).toNat)
  case atStart => exact ⟨0, Nat.zero_le _, rfl, HR.out, Chg.refl _ _⟩
  case round =>
    obtain ⟨k, hk, rfl, HB⟩ := hrel
    obtain ⟨hM, hC⟩ := HB.out
    have hff := HF.out
    by_cases hlt : k < 256
    · have c0 : wr.cell? ⟨r, 0, none⟩ = some (.slice (some ⟨g, 0, none⟩) (F * 256) (F * 256)) := hM.blk.cellv 0 _ rfl
      have fg := hM.freeg (a * 256 + k)
      have q6 : wrap64 ((a : Int) * 256 + (k : Int)) = (a : Int) * 256 + (k : Int) := by unfold wrap64; omega
      have d6 : (0 : Int) ≤ (a : Int) * 256 + (k : Int) := by omega
      have d7 : (a : Int) * 256 + (k : Int) < (F : Int) * 256 := by omega
      have d8 : ((a : Int) * 256 + (k : Int)).toNat = a * 256 + k := by omega
      have e9 : a * 256 + k < F * 256 := by omega
      have ca := hM.cellg (a * 256 + k) e9
      generalize putV V (a * 256) k (fun _ => 0) (a * 256 + k) = yo at ca
      have hP := hM.put1 (f := fun _ => 0) (x := 0) e9 (fun _ => by omega) HV.out rfl
      have HP := Lib.hid hP
      have HC := Lib.hid hC
      clear hM hC hff HB hP
      go_wp2_with fail
      go_roundw
      case rel => exact ⟨k + 1, by omega, by go_num, HP.out.1, HC.out.trans HP.out.2⟩
      case measure => simp [intOf]; omega
    · obtain rfl : k = 256 := by omega
      have HE := Lib.hid (And.intro hM hC)
      clear hM hC hff HB
      go_wp2_with fail
      go_ret
      exact ⟨rfl, HE.out⟩

theorem rm_copy (w : World) (r g F t : Nat) (hF : F ≤ 256) (V : Nat → Nat) (h : RM w r g F V t) (a b : Int) (hb : 0 ≤ b) :
    Calls Tryz.prog 33 #[.pointer (some ⟨r, 0, none⟩), .int .i64 a, .int .i64 b] w (RmK w r g F t (cpV F V a b) (.int .i64 (cdC F a b))) := by
  by_cases hf : 0 ≤ a ∧ a < F ∧ 0 ≤ b ∧ b < F
  · have e : cdC F a b = 0 := by unfold cdC; rw [if_pos hf]
    obtain ⟨m, rfl⟩ := Int.eq_ofNat_of_zero_le hf.1
    obtain ⟨k, rfl⟩ := Int.eq_ofNat_of_zero_le hf.2.2.1
    simp only [cpV, e, if_true, Int.toNat_natCast]
    exact rm_copy_yes w r g F t hF V h m k (by omega) (by omega)
  · have e : cdC F a b = 3 := by unfold cdC; rw [if_neg hf]
    simp only [cpV, e]
    exact (rm_copy_no w r g F t hF V h a b (by omega)).mono fun _ _ ⟨h1, h2⟩ => by subst h1 h2; exact ⟨rfl, h, Chg.refl _ _⟩
theorem rm_clear (w : World) (r g F t : Nat) (hF : F ≤ 256) (V : Nat → Nat) (h : RM w r g F V t) (a : Int) :
    Calls Tryz.prog 33 #[.pointer (some ⟨r, 0, none⟩), .int .i64 a, .int .i64 (-1)] w (RmK w r g F t (clV F V a) (.int .i64 (cdF F a))) := by
  by_cases hf : 0 ≤ a ∧ a < F
  · have e : cdF F a = 0 := by unfold cdF; rw [if_pos hf]
    obtain ⟨m, rfl⟩ := Int.eq_ofNat_of_zero_le hf.1
    simp only [clV, e, if_true, Int.toNat_natCast]
    exact rm_copy_clear w r g F t hF V h m (by omega)
  · have e : cdF F a = 3 := by unfold cdF; rw [if_neg hf]
    simp only [clV, e]
    exact (rm_copy_no w r g F t hF V h a (-1) (by omega)).mono fun _ _ ⟨h1, h2⟩ => by subst h1 h2; exact ⟨rfl, h, Chg.refl _ _⟩
end Go.Proofs.YtijooajhjcfneaaGreat

namespace Go.Proofs.YtijooajhjcfneaaGreat
open Go.RowKit

def entV (V : Nat → Nat) (a : Nat) : Nat := wOf (memStr V a 8)
theorem entV_lt (V : Nat → Nat) (a : Nat) : entV V a < 18446744073709551616 := wOf_lt _
theorem ldV8 (F : Nat) (V : Nat → Nat) (a : Nat) (h : a + 8 ≤ F * 256) : ldV F V a 8 = entV V a ∧ cdL F a 8 = 0 := by
  have e : cdL F a 8 = 0 := by
    unfold cdL
    rw [if_pos (by decide), if_pos (by show a + 8 ≤ F * 256; exact h)]
  exact ⟨by unfold ldV; rw [if_pos e]; rfl, e⟩

/-- an entry is none, or leads to a frame -/
def tbGo (F e : Nat) : Option Nat := if e % 2 = 0 ∨ e / 2 % 8 ≠ 0 ∨ F ≤ e / 1024 then none else some (e / 1024)
theorem tbGo_lt {F e x : Nat} (h : tbGo F e = some x) : x < F := by
  unfold tbGo at h
  split at h
  · cases h
  · cases h; omega
def tbLeaf (V : Nat → Nat) (F root at_ : Nat) : Option Nat :=
  (tbGo F (entV V (root * 256 + 8 * (at_ / 262144 % 32)))).bind fun a => (tbGo F (entV V (a * 256 + 8 * (at_ / 8192 % 32)))).map fun b => b * 256 + 8 * (at_ / 256 % 32)
theorem tbLeaf_lt {V : Nat → Nat} {F root at_ x : Nat} (h : tbLeaf V F root at_ = some x) : x + 8 ≤ F * 256 := by
  unfold tbLeaf at h
  rw [Option.bind_eq_some_iff] at h
  obtain ⟨a, _, h⟩ := h
  rw [Option.map_eq_some_iff] at h
  obtain ⟨b, hb, rfl⟩ := h
  have h1 := tbGo_lt hb
  have h2 := Nat.mod_lt (at_ / 256) (show 32 > 0 by decide)
  clear hb
  generalize at_ / 256 % 32 = k at *
  omega
/-- may it be reached so? -/
def tbMay (F e acc : Nat) : Bool := decide (e % 2 ≠ 0 ∧ e / 16 % 2 ≠ 0 ∧ e / 2 ^ acc % 2 ≠ 0 ∧ e / 1024 < F)
def tbWalk (V : Nat → Nat) (F root at_ acc : Nat) : Option Nat :=
  (tbLeaf V F root at_).bind fun x => if tbMay F (entV V x) acc = true then some (entV V x / 1024 * 256 + at_ % 256) else none

theorem and_mod (e m n : Nat) (hm : m < 2 ^ n) : e &&& m = (e % 2 ^ n) &&& m := by
  have h : (e &&& m) < 2 ^ n := Nat.lt_of_le_of_lt Nat.and_le_right hm
  have h2 := Nat.and_mod_two_pow (a := e) (b := m) (n := n)
  rw [Nat.mod_eq_of_lt h, Nat.mod_eq_of_lt hm] at h2
  exact h2
theorem and14_small : ∀ r : Nat, r < 16 → ((r &&& 14 = 0) ↔ (r / 2 % 8 = 0)) := by decide
theorem and14 (e : Nat) : (e &&& 14 = 0) ↔ (e / 2 % 8 = 0) := by
  rw [and_mod e 14 4 (by decide), and14_small (e % 16) (Nat.mod_lt _ (by decide))]
  omega
theorem want2_small : ∀ r : Nat, r < 32 → ((r &&& 19 = 19) ↔ (r % 2 ≠ 0 ∧ r / 16 % 2 ≠ 0 ∧ r / 2 % 2 ≠ 0)) := by decide
theorem want4_small : ∀ r : Nat, r < 32 → ((r &&& 21 = 21) ↔ (r % 2 ≠ 0 ∧ r / 16 % 2 ≠ 0 ∧ r / 4 % 2 ≠ 0)) := by decide
theorem want8_small : ∀ r : Nat, r < 32 → ((r &&& 25 = 25) ↔ (r % 2 ≠ 0 ∧ r / 16 % 2 ≠ 0 ∧ r / 8 % 2 ≠ 0)) := by decide
theorem want2 (e : Nat) : (e &&& 19 = 19) ↔ (e % 2 ≠ 0 ∧ e / 16 % 2 ≠ 0 ∧ e / 2 % 2 ≠ 0) := by
  rw [and_mod e 19 5 (by decide), want2_small (e % 32) (Nat.mod_lt _ (by decide))]
  omega
theorem want4 (e : Nat) : (e &&& 21 = 21) ↔ (e % 2 ≠ 0 ∧ e / 16 % 2 ≠ 0 ∧ e / 4 % 2 ≠ 0) := by
  rw [and_mod e 21 5 (by decide), want4_small (e % 32) (Nat.mod_lt _ (by decide))]
  omega
theorem want8 (e : Nat) : (e &&& 25 = 25) ↔ (e % 2 ≠ 0 ∧ e / 16 % 2 ≠ 0 ∧ e / 8 % 2 ≠ 0) := by
  rw [and_mod e 25 5 (by decide), want8_small (e % 32) (Nat.mod_lt _ (by decide))]
  omega

/-- a memory that owns none of the blocks of S, however often touched -/
def PY (S : Nat → Prop) (w : World) (p F : Nat) (V : Nat → Nat) : Prop := ∃ o t, t < 18446744073709551616 ∧ MemA w p o F V t ∧ (∀ k, MemOwn p o k → ¬ S k) ∧ ∀ k, S k → k < w.heap.size
def StepY (S : Nat → Prop) (w : World) (p F : Nat) (V : Nat → Nat) (v : Value) (e : Ending) (w' : World) : Prop := e = .returned v ∧ PY S w' p F V ∧ Chg (fun k => ¬ S k) w w'
theorem tc_lt' (F a : Nat) (n : Int) (t : Nat) (h : t < 18446744073709551616) : tc F a n t < 18446744073709551616 := by
  unfold tc; split <;> omega
theorem PY.left {S : Nat → Prop} {w w' : World} {p F t' : Nat} {o : Option Nat} {V' : Nat → Nat} {v : Value} {e : Ending} (ht : t' < 18446744073709551616) (hB : ∀ k, MemOwn p o k → ¬ S k) (hS : ∀ k, S k → k < w.heap.size) (k : MemK w p F t' o V' v e w') : StepY S w p F V' v e w' := by
  obtain ⟨he, o', hm, hc, hk⟩ := k
  exact ⟨he, ⟨o', t', ht, hm, fun k a => (hk k a).elim (hB k) (fun h h' => by have := hS k h'; omega), fun k h => Nat.lt_of_lt_of_le (hS k h) hc.size⟩, hc.mono hB⟩
theorem PY.nothing {S : Nat → Prop} {w w' : World} {p F : Nat} {V : Nat → Nat} (h : PY S w p F V) (c : Chg (fun _ => False) w w') : PY S w' p F V := by
  obtain ⟨o, t, ht, hm, hB, hS⟩ := h
  exact ⟨o, t, ht, hm.chg c (fun _ _ h => h), hB, fun k h => Nat.lt_of_lt_of_le (hS k h) c.size⟩
theorem PY.drew {S : Nat → Prop} {w : World} {p F : Nat} {V : Nat → Nat} (h : PY S w p F V) : PY S w.drew p F V := h.nothing (Chg.refl _ _).drew
theorem PY.small {S : Nat → Prop} {w : World} {p F : Nat} {V : Nat → Nat} (h : PY S w p F V) : ∀ i, V i < 256 := by
  obtain ⟨o, t, ht, hm, hB, hS⟩ := h
  exact hm.small
theorem py_load {S : Nat → Prop} {w : World} {p F : Nat} {V : Nat → Nat} (h : PY S w p F V) (hF : F ≤ 256) (a : Nat) (ha : a < 18446744073709551616) (n : Int) (x : Int) (hx : x = (a : Int)) :
    Calls Tryz.prog 57 #[.pointer (some ⟨p, 0, none⟩), .int .u64 x, .int .i64 n] w (StepY S w p F V (.tuple #[.int .u64 (ldV F V a n : Nat), .int .i64 (cdL F a n)])) := by
  obtain ⟨o, t, ht, hm, hB, hS⟩ := h
  subst hx
  exact (m_load w p F t hF ht o V hm a ha n).mono fun _ _ k => PY.left (tc_lt' _ _ _ _ ht) hB hS k
theorem py_load8 {S : Nat → Prop} {w : World} {p F : Nat} {V : Nat → Nat} (h : PY S w p F V) (hF : F ≤ 256) (a : Nat) (ha : a + 8 ≤ F * 256) (x : Int) (hx : x = (a : Int)) :
    Calls Tryz.prog 57 #[.pointer (some ⟨p, 0, none⟩), .int .u64 x, .int .i64 8] w (StepY S w p F V (.tuple #[.int .u64 (entV V a : Nat), .int .i64 0])) := by
  have k := py_load h hF a (by omega) 8 x hx
  rw [(ldV8 F V a ha).1, (ldV8 F V a ha).2] at k
  exact k
theorem py_store {S : Nat → Prop} {w : World} {p F : Nat} {V : Nat → Nat} (h : PY S w p F V) (hF : F ≤ 256) (a : Nat) (ha : a < 18446744073709551616) (n : Int) (v : Nat) (hv : v < 18446744073709551616) (x : Int) (hx : x = (a : Int)) :
    Calls Tryz.prog 83 #[.pointer (some ⟨p, 0, none⟩), .int .u64 x, .int .i64 n, .int .u64 v] w (StepY S w p F (stV F V a n v) (.int .i64 (cdL F a n))) := by
  obtain ⟨o, t, ht, hm, hB, hS⟩ := h
  subst hx
  exact (m_store w p F t hF ht o V hm a ha n v hv).mono fun _ _ k => PY.left (tc_lt' _ _ _ _ ht) hB hS k
theorem py_get {S : Nat → Prop} {w : World} {p F : Nat} {V : Nat → Nat} (h : PY S w p F V) (hF : F ≤ 256) (a : Nat) (ha : a < 18446744073709551616) (n : Int) (hn : n ≤ 9223372036854775807) (x : Int) (hx : x = (a : Int)) :
    Calls Tryz.prog 15 #[.pointer (some ⟨p, 0, none⟩), .int .u64 x, .int .i64 n] w (StepY S w p F V (.tuple #[.string (gtS F V a n), .int .i64 (cdG F a n)])) := by
  obtain ⟨o, t, ht, hm, hB, hS⟩ := h
  subst hx
  exact (m_get w p F t hF o V hm a ha n hn).mono fun _ _ k => PY.left ht hB hS k
theorem py_put {S : Nat → Prop} {w : World} {p F : Nat} {V : Nat → Nat} (h : PY S w p F V) (hF : F ≤ 256) (a : Nat) (ha : a < 18446744073709551616) (s : ByteArray) (hs : s.size ≤ maxLen) (x : Int) (hx : x = (a : Int)) :
    Calls Tryz.prog 44 #[.pointer (some ⟨p, 0, none⟩), .int .u64 x, .string s] w (StepY S w p F (ptV F V a s) (.int .i64 (cdP F a s))) := by
  obtain ⟨o, t, ht, hm, hB, hS⟩ := h
  subst hx
  exact (m_put w p F t hF o V hm a ha s hs).mono fun _ _ k => PY.left ht hB hS k
theorem py_frames {S : Nat → Prop} {w : World} {p F : Nat} {V : Nat → Nat} (h : PY S w p F V) :
    Calls Tryz.prog 31 #[.pointer (some ⟨p, 0, none⟩)] w fun e w' => e = .returned (.int .i64 F) ∧ w = w' := by
  obtain ⟨o, t, ht, hm, hB, hS⟩ := h
  exact phys_frames w p F t o V hm
end Go.Proofs.YtijooajhjcfneaaGreat

namespace Go.Proofs.YtijooajhjcfneaaGreat
open Go.RowKit

theorem i64_and_nat (a b : Nat) (ha : a < 9223372036854775808) (hb : b < 9223372036854775808) : bits .and .i64 (a : Int) (b : Int) = ((a &&& b : Nat) : Int) := by
  have h : (BitVec.ofInt 64 (a : Int) &&& BitVec.ofInt 64 (b : Int)).toNat = a &&& b := by
    rw [BitVec.toNat_and, ofInt_u64 a (by omega), ofInt_u64 b (by omega)]
  have hle : (a &&& b) ≤ a := Nat.and_le_left
  show IntKind.i64.wrap (((BitVec.ofInt 64 (a : Int) &&& BitVec.ofInt 64 (b : Int)).toNat : Nat) : Int) = _
  rw [h]
  generalize a &&& b = c at *
  simp [IntKind.wrap, IntKind.bits, IntKind.signed]
  omega

/-- the part of an address at a level -/
def tbPart (at_ : Nat) (l : Nat) : Nat := if at_ < 8388608 then at_ / 2 ^ (8 + 5 * l) % 32 else 0
theorem tbPart_lt (at_ l : Nat) : tbPart at_ l < 32 := by
  unfold tbPart
  split
  · exact Nat.mod_lt _ (by decide)
  · omega

theorem tb_part_out (w : World) (at_ : Nat) (h : 8388608 ≤ at_) (l : Int) (hl : 0 ≤ l ∧ l < 3) :
    Calls Tryz.prog 84 #[.int .u64 at_, .int .i64 l] w fun e w' => e = .returned (.int .i64 0) ∧ w = w' := by
  have d1 : decide (l < (0 : Int)) = false := decide_eq_false (by omega)
  have d2 : decide ((3 : Int) ≤ l) = false := decide_eq_false (by omega)
  have d3 : decide ((8388608 : Int) ≤ (at_ : Int)) = true := decide_eq_true (by omega)
  go_enter Tryz.func84, Tryz.ntmps84
  go_wp2_with fail
  go_ret
  exact ⟨rfl, rfl⟩
theorem tb_part0 (w : World) (at_ : Nat) (h : at_ < 8388608) :
    Calls Tryz.prog 84 #[.int .u64 at_, .int .i64 0] w fun e w' => e = .returned (.int .i64 (at_ / 256 % 32 : Nat)) ∧ w = w' := by
  have d3 : decide ((8388608 : Int) ≤ (at_ : Int)) = false := decide_eq_false (by omega)
  have d4 : ¬ 8388608 ≤ at_ := by omega
  have q1 : wrap64 ((at_ : Int) / 256) = (at_ : Int) / 256 := by unfold wrap64; omega
  have q2 : bits BinOp.and IntKind.i64 ((at_ : Int) / 256) 31 = ((at_ / 256 % 32 : Nat) : Int) := by
    have h1 := i64_and_nat (at_ / 256) 31 (by omega) (by omega)
    rw [nat_mask5] at h1
    exact h1
  generalize at_ / 256 % 32 = k at *
  go_enter Tryz.func84, Tryz.ntmps84
  go_wp2_with fail
  go_ret
  exact ⟨rfl, rfl⟩
theorem tb_part1 (w : World) (at_ : Nat) (h : at_ < 8388608) :
    Calls Tryz.prog 84 #[.int .u64 at_, .int .i64 1] w fun e w' => e = .returned (.int .i64 (at_ / 8192 % 32 : Nat)) ∧ w = w' := by
  have d3 : decide ((8388608 : Int) ≤ (at_ : Int)) = false := decide_eq_false (by omega)
  have d4 : ¬ 8388608 ≤ at_ := by omega
  have q1 : wrap64 ((at_ : Int) / 8192) = (at_ : Int) / 8192 := by unfold wrap64; omega
  have q2 : bits BinOp.and IntKind.i64 ((at_ : Int) / 8192) 31 = ((at_ / 8192 % 32 : Nat) : Int) := by
    have h1 := i64_and_nat (at_ / 8192) 31 (by omega) (by omega)
    rw [nat_mask5] at h1
    exact h1
  generalize at_ / 8192 % 32 = k at *
  go_enter Tryz.func84, Tryz.ntmps84
  go_wp2_with fail
  go_ret
  exact ⟨rfl, rfl⟩
theorem tb_part2 (w : World) (at_ : Nat) (h : at_ < 8388608) :
    Calls Tryz.prog 84 #[.int .u64 at_, .int .i64 2] w fun e w' => e = .returned (.int .i64 (at_ / 262144 % 32 : Nat)) ∧ w = w' := by
  have d3 : decide ((8388608 : Int) ≤ (at_ : Int)) = false := decide_eq_false (by omega)
  have d4 : ¬ 8388608 ≤ at_ := by omega
  have q1 : wrap64 ((at_ : Int) / 262144) = (at_ : Int) / 262144 := by unfold wrap64; omega
  have q2 : bits BinOp.and IntKind.i64 ((at_ : Int) / 262144) 31 = ((at_ / 262144 % 32 : Nat) : Int) := by
    have h1 := i64_and_nat (at_ / 262144) 31 (by omega) (by omega)
    rw [nat_mask5] at h1
    exact h1
  generalize at_ / 262144 % 32 = k at *
  go_enter Tryz.func84, Tryz.ntmps84
  go_wp2_with fail
  go_ret
  exact ⟨rfl, rfl⟩
theorem tb_frame (w : World) (e : Nat) (_he : e < 18446744073709551616) :
    Calls Tryz.prog 58 #[.int .u64 e] w fun r w' => r = .returned (.int .u64 (e / 1024 : Nat)) ∧ w = w' := by
  go_enter Tryz.func58, Tryz.ntmps58
  go_wp2_with fail
  go_ret
  exact ⟨by simp, rfl⟩
theorem tb_needs (w : World) (acc : Nat) (h : 1 ≤ acc ∧ acc ≤ 3) :
    Calls Tryz.prog 72 #[.int .i64 acc] w fun r w' => r = .returned (.int .u64 (2 ^ acc : Nat)) ∧ w = w' := by
  rcases (show acc = 1 ∨ acc = 2 ∨ acc = 3 by omega) with rfl | rfl | rfl
  all_goals
    go_enter Tryz.func72, Tryz.ntmps72
    go_wp2_with fail
    go_ret
    exact ⟨rfl, rfl⟩
theorem tb_needs_no (w : World) (acc : Int) (h : acc ≠ 1 ∧ acc ≠ 2 ∧ acc ≠ 3) :
    Calls Tryz.prog 72 #[.int .i64 acc] w fun r w' => r = .returned (.int .u64 0) ∧ w = w' := by
  have q1 : (acc == 1) = false := by simpa using h.1
  have q2 : (acc == 2) = false := by simpa using h.2.1
  have q3 : (acc == 3) = false := by simpa using h.2.2
  go_enter Tryz.func72, Tryz.ntmps72
  go_wp2_with fail
  go_ret
  exact ⟨rfl, rfl⟩
end Go.Proofs.YtijooajhjcfneaaGreat
