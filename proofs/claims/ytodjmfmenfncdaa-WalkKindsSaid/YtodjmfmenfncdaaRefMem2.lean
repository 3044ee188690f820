/-
  The document's memory: Load, Put, Store, Copy by their contracts.
-/
import Derived.Test.YtodjmfmenfncdaaRefMem1
namespace Go.Proofs.Ytodjmfmenfncdaa
open Go.RowKit

theorem RM.put1 {w : World} {r g F t at_ k : Nat} {V f : Nat → Nat} {x : Int} (h : RM w r g F (putV V at_ k f) t) (hk : at_ + k < F * 256) (hf : ∀ i, f i < 256) (hV : ∀ i, V i < 256) (hx : x = (f k : Nat)) :
    RM (w.setCell ⟨g, at_ + k, none⟩ (.int .u8 x)) r g F (putV V at_ (k + 1) f) t ∧ Chg (fun i => i = r ∨ i = g) w (w.setCell ⟨g, at_ + k, none⟩ (.int .u8 x)) := by
  subst hx
  have c : Chg (fun i => i = g) w (w.setCell ⟨g, at_ + k, none⟩ (.int .u8 (f k : Nat))) := (Chg.refl _ _).setCell _ _ (.inl rfl)
  refine ⟨⟨c.blk h.blk h.ne, (h.row.set (at_ + k) (f k) hk).congr fun i hi => ?_, h.ne, putV_small hV hf⟩, c.mono fun _ h => .inr h⟩
  unfold putV
  by_cases e : i = at_ + k
  · subst e
    rw [if_pos rfl, if_pos (by omega)]; congr 1; omega
  · rw [if_neg e]
    by_cases e2 : at_ ≤ i ∧ i < at_ + k
    · rw [if_pos e2, if_pos (by omega)]
    · rw [if_neg e2, if_neg (by omega)]

set_option maxHeartbeats 800000 in
theorem rm_load (w : World) (r g F t : Nat) (hF : F ≤ 256) (_ht : t < 18446744073709551616) (V : Nat → Nat) (h : RM w r g F V t) (at_ : Nat) (hw : at_ < 18446744073709551616) (n : Int) :
    Calls Try.prog 72 #[.pointer (some ⟨r, 0, none⟩), .int .u64 at_, .int .i64 n] w (RmK w r g F (tc F at_ n t) V (.tuple #[.int .u64 (ldV F V at_ n : Nat), .int .i64 (cdL F at_ n)])) := by
  have HZ := Lib.hid (ref_sized w n)
  by_cases hs : wSized n = true
  · rw [hs] at HZ
    have hn := wSized_le hs
    obtain ⟨m, rfl⟩ := Int.eq_ofNat_of_zero_le (show 0 ≤ n by omega)
    have HT := Lib.hid (ref_there w r g F t hF V h at_ m hw (by omega))
    by_cases hf : at_ + m ≤ F * 256
    · have e : cdL F at_ (m : Int) = 0 := by simp [cdL, hs, hf]
      simp only [ldV, tc, e, if_true, Int.toNat_natCast]
      rw [decide_eq_true hf] at HT
      obtain ⟨x, hx⟩ : ∃ x : Int, x = (((t + 1) % 18446744073709551616 : Nat) : Int) := ⟨_, rfl⟩
      have c0 : w.cell? ⟨r, 0, none⟩ = some (.slice (some ⟨g, 0, none⟩) (F * 256) (F * 256)) := h.blk.cellv 0 _ rfl
      have c1 : w.cell? ⟨r, 1, none⟩ = some (.int .u64 t) := h.blk.cellv 1 _ rfl
      have f1 := h.blk.free 1
      obtain ⟨h2, k2⟩ := h.touched (t' := (t + 1) % 18446744073709551616)
      rw [← hx] at h2 k2
      have c0' : (w.setCell ⟨r, 1, none⟩ (.int .u64 x)).cell? ⟨r, 0, none⟩ = some (.slice (some ⟨g, 0, none⟩) (F * 256) (F * 256)) := h2.blk.cellv 0 _ rfl
      have q3 : IntKind.u64.wrap ((t : Int) + 1) = x := by rw [u64_wrap, hx]; omega
      have hcv := row_string _ g (F * 256) V h2.row at_ at_ m (F * 256 - at_) (fun _ => rfl) hf
      have q1 : IntKind.u64.wrap (m : Int) = (m : Int) := by rw [u64_wrap]; omega
      have q2 : IntKind.u64.wrap ((at_ : Int) + (m : Int)) = (at_ : Int) + (m : Int) := by rw [u64_wrap]; omega
      have HO := fun W => Lib.hid (ref_of W (memStr V at_ m) (by rw [memStr_size]; unfold maxLen; omega))
      have HO' := Lib.hid HO
      generalize wOf (memStr V at_ m) = q at *
      generalize memStr V at_ m = s at *
      have HK := Lib.hid (And.intro h2 (k2.mono (S' := fun k => k = r ∨ k = g) fun _ h => .inl h)); have m1 : 0 < m := by omega
      have m2 : at_ < F * 256 := by omega
      clear h h2 k2 e hs hn hx HO
      go_enter Try.func72, Try.ntmps72
      go_wp2_with fail
      refine HZ.out.mono ?_
      rintro e w' ⟨rfl, rfl⟩
      go_wp2_with fail
      refine HT.out.mono ?_
      rintro e w' ⟨rfl, rfl⟩
      go_wp2_with fail
      refine (HO'.out _).out.mono ?_
      rintro e w' ⟨rfl, rfl⟩
      go_wp2_with fail
      go_ret2
      exact ⟨rfl, HK.out⟩
    · have e : cdL F at_ (m : Int) = 3 := by simp [cdL, hs, hf]
      simp only [ldV, tc, e]
      rw [decide_eq_false hf] at HT
      have HH := Lib.hid h
      clear h hf e hs hn
      go_enter Try.func72, Try.ntmps72
      go_wp2_with fail
      refine HZ.out.mono ?_
      rintro e w' ⟨rfl, rfl⟩
      go_wp2_with fail
      refine HT.out.mono ?_
      rintro e w' ⟨rfl, rfl⟩
      go_wp2_with fail
      go_ret2
      exact ⟨rfl, HH.out, Chg.refl _ _⟩
  · have e : cdL F at_ n = 1 := by simp [cdL, hs]
    simp only [ldV, tc, e]
    rw [show wSized n = false by simpa using hs] at HZ
    have HH := Lib.hid h
    clear h e hs
    go_enter Try.func72, Try.ntmps72
    go_wp2_with fail
    refine HZ.out.mono ?_
    rintro e w' ⟨rfl, rfl⟩
    go_wp2_with fail
    go_ret2
    exact ⟨rfl, HH.out, Chg.refl _ _⟩

set_option maxHeartbeats 1600000 in
theorem rm_put (w : World) (r g F t : Nat) (hF : F ≤ 256) (V : Nat → Nat) (h : RM w r g F V t) (at_ : Nat) (hw : at_ < 18446744073709551616) (s : ByteArray) (hs : s.size ≤ maxLen) :
    Calls Try.prog 69 #[.pointer (some ⟨r, 0, none⟩), .int .u64 at_, .string s] w (RmK w r g F t (ptV F V at_ s) (.int .i64 (cdP F at_ s))) := by
  have hs2 : s.size ≤ 9223372036854775807 := by unfold maxLen at hs; omega
  have HT := Lib.hid (ref_there w r g F t hF V h at_ s.size hw hs2)
  by_cases hf : at_ + s.size ≤ F * 256
  · have e : cdP F at_ s = 0 := by simp [cdP, hf]
    simp only [ptV, e, if_true]
    rw [decide_eq_true hf] at HT
    have HV := Lib.hid h.small
    have HR := Lib.hid (show RM w r g F (putV V at_ 0 (byt s)) t by rw [putV_none]; exact h)
    have HF := Lib.hid (And.intro hf hF)
    clear h hf e hF hw hs
    go_enter Try.func69, Try.ntmps69
    go_wp2_with fail
    refine HT.out.mono ?_
    rintro e w' ⟨rfl, rfl⟩
    go_wp2_with fail
    go_loopw [8] (fun i wr => ∃ k : Nat, k ≤ s.size ∧ i = .int .i64 k ∧ Hid (RM wr r g F (putV V at_ k (byt s)) t ∧ Chg (fun i => i = r ∨ i = g) w wr)) (fun i _ => s.size - (intOf i).toNat)
    case atStart => exact ⟨0, Nat.zero_le _, rfl, HR.out, Chg.refl _ _⟩
    case round =>
      obtain ⟨k, hk, rfl, HB⟩ := hrel
      obtain ⟨hM, hC⟩ := HB.out
      have hff := HF.out
      by_cases hlt : k < s.size
      · have c0 : wr.cell? ⟨r, 0, none⟩ = some (.slice (some ⟨g, 0, none⟩) (F * 256) (F * 256)) := hM.blk.cellv 0 _ rfl
        obtain ⟨yo, cg⟩ : ∃ y, wr.cell? ⟨g, at_ + k, none⟩ = some y := by obtain ⟨cs, hb, _, hv⟩ := hM.row; exact ⟨_, hb.cellv _ _ (hv _ (by omega))⟩
        have fg : wr.frozen? ⟨g, at_ + k, none⟩ = false := by obtain ⟨cs, hb, _, _⟩ := hM.row; exact hb.free _
        have q1 : IntKind.u64.wrap (k : Int) = (k : Int) := by rw [u64_wrap]; omega
        have q2 : IntKind.u64.wrap ((at_ : Int) + (k : Int)) = (at_ : Int) + (k : Int) := by rw [u64_wrap]; omega
        have d1 : (0 : Int) ≤ (at_ : Int) + (k : Int) := by omega
        have d2 : (at_ : Int) + (k : Int) < (F : Int) * 256 := by omega
        have d3 : ((at_ : Int) + (k : Int)).toNat = at_ + k := by omega
        have d4 : at_ + k < F * 256 := by omega
        obtain ⟨ws, hws⟩ : ∃ ws, ws = wr.setCell ⟨g, at_ + k, none⟩ (.int .u8 ((s[k].toNat : Nat) : Int)) := ⟨_, rfl⟩
        have hP := hM.put1 (x := ((s[k].toNat : Nat) : Int)) d4 (byt_lt s) HV.out (by rw [byt_get s k hlt])
        have HP := Lib.hid hP
        have HC := Lib.hid hC
        clear hM hC hff HB hP hws
        go_wp2_with fail
        go_region
        all_goals
          go_wp2_with fail
          go_roundw
          case rel => exact ⟨k + 1, by omega, by go_num, ⟨HP.out.1.chg (S := fun _ => False) (Chg.refl _ _).drew (fun h => h) (fun h => h), (HC.out.trans HP.out.2).drew⟩⟩
          case measure => simp [intOf]; omega
      · obtain rfl : k = s.size := by omega
        have HE := Lib.hid (And.intro hM hC)
        clear hM hC hff HB
        go_wp2_with fail
        go_ret
        exact ⟨rfl, HE.out⟩
  · have e : cdP F at_ s = 3 := by simp [cdP, hf]
    simp only [ptV, e]
    rw [decide_eq_false hf] at HT
    have HH := Lib.hid h
    clear h hf e
    go_enter Try.func69, Try.ntmps69
    go_wp2_with fail
    refine HT.out.mono ?_
    rintro e w' ⟨rfl, rfl⟩
    go_wp2_with fail
    go_ret
    exact ⟨rfl, HH.out, Chg.refl _ _⟩

set_option maxHeartbeats 800000 in
theorem rm_store (w : World) (r g F t : Nat) (hF : F ≤ 256) (_ht : t < 18446744073709551616) (V : Nat → Nat) (h : RM w r g F V t) (at_ : Nat) (hw : at_ < 18446744073709551616) (n : Int) (v : Nat) (hv : v < 18446744073709551616) :
    Calls Try.prog 34 #[.pointer (some ⟨r, 0, none⟩), .int .u64 at_, .int .i64 n, .int .u64 v] w (RmK w r g F (tc F at_ n t) (stV F V at_ n v) (.int .i64 (cdL F at_ n))) := by
  have HZ := Lib.hid (ref_sized w n)
  by_cases hs : wSized n = true
  · rw [hs] at HZ
    have hn := wSized_le hs
    obtain ⟨m, rfl⟩ := Int.eq_ofNat_of_zero_le (show 0 ≤ n by omega)
    have HT := Lib.hid (ref_there w r g F t hF V h at_ m hw (by omega))
    by_cases hf : at_ + m ≤ F * 256
    · have e : cdL F at_ (m : Int) = 0 := by simp [cdL, hs, hf]
      simp only [stV, tc, e, if_true, Int.toNat_natCast]
      rw [decide_eq_true hf] at HT
      obtain ⟨x, hx⟩ : ∃ x : Int, x = (((t + 1) % 18446744073709551616 : Nat) : Int) := ⟨_, rfl⟩
      have c1 : w.cell? ⟨r, 1, none⟩ = some (.int .u64 t) := h.blk.cellv 1 _ rfl
      have f1 := h.blk.free 1
      obtain ⟨h2, k2⟩ := h.touched (t' := (t + 1) % 18446744073709551616)
      rw [← hx] at h2 k2
      have q3 : IntKind.u64.wrap ((t : Int) + 1) = x := by rw [u64_wrap, hx]; omega
      have HO := fun W => Lib.hid (ref_bytes W v hv (m : Int))
      have hsz : (wBytes v (m : Int)).size = m := by rw [wBytes_size]; unfold wCount; omega
      generalize wBytes v (m : Int) = q at *
      have HP := fun W (H : RM W r g F V ((t + 1) % 18446744073709551616)) => Lib.hid (rm_put W r g F _ hF V H at_ hw q (by unfold maxLen; omega))
      have hcp : cdP F at_ q = 0 := by unfold cdP; rw [if_pos (by omega)]
      have hpv : ptV F V at_ q = putV V at_ m (byt q) := by unfold ptV; rw [if_pos hcp, hsz]
      rw [hcp, hpv] at HP
      have HO' := Lib.hid HO; have HP' := Lib.hid HP
      have HK := Lib.hid (And.intro h2 (k2.mono (S' := fun k => k = r ∨ k = g) fun _ h => .inl h))
      clear h h2 k2 e hs hn hx HO HP hsz hcp hpv hf
      go_enter Try.func34, Try.ntmps34
      go_wp2_with fail
      refine HZ.out.mono ?_
      rintro e w' ⟨rfl, rfl⟩
      go_wp2_with fail
      refine HT.out.mono ?_
      rintro e w' ⟨rfl, rfl⟩
      go_wp2_with fail
      refine (HO'.out _).out.mono ?_
      rintro e w1 ⟨rfl, b1⟩
      have B1 := Lib.hid b1; clear b1
      go_wp2_with fail
      refine (HP'.out w1 (HK.out.1.chg B1.out (fun h => h) (fun h => h))).out.mono ?_
      rintro e w2 ⟨rfl, m2, b2⟩
      have B2 := Lib.hid (And.intro m2 b2); clear m2 b2
      go_wp2_with fail
      go_ret
      exact ⟨rfl, B2.out.1, HK.out.2.trans ((B1.out.mono (fun _ h => h.elim)).trans B2.out.2)⟩
    · have e : cdL F at_ (m : Int) = 3 := by simp [cdL, hs, hf]
      simp only [stV, tc, e]
      rw [decide_eq_false hf] at HT
      have HH := Lib.hid h
      clear h hf e hs hn
      go_enter Try.func34, Try.ntmps34
      go_wp2_with fail
      refine HZ.out.mono ?_
      rintro e w' ⟨rfl, rfl⟩
      go_wp2_with fail
      refine HT.out.mono ?_
      rintro e w' ⟨rfl, rfl⟩
      go_wp2_with fail
      go_ret
      exact ⟨rfl, HH.out, Chg.refl _ _⟩
  · have e : cdL F at_ n = 1 := by simp [cdL, hs]
    simp only [stV, tc, e]
    rw [show wSized n = false by simpa using hs] at HZ
    have HH := Lib.hid h
    clear h e hs
    go_enter Try.func34, Try.ntmps34
    go_wp2_with fail
    refine HZ.out.mono ?_
    rintro e w' ⟨rfl, rfl⟩
    go_wp2_with fail
    go_ret
    exact ⟨rfl, HH.out, Chg.refl _ _⟩
end Go.Proofs.Ytodjmfmenfncdaa
