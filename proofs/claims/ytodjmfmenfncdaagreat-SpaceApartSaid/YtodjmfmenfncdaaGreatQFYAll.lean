/-
  All bytes of a space, by contract; what is put into one space is seen in no other one.
-/
import Derived.Test.YtodjmfmenfncdaaGreatQSpAll
namespace Go.Proofs.YtodjmfmenfncdaaGreat
open Go.RowKit

theorem page_lt {F : Nat} {s : PS} {R : Roles} (h : WFS F s R) {root : Nat} (hr : R root = some (root, 3, 0)) {n : Int} (hn : n ∈ pagesL s.V root) : ∃ i : Nat, n = (i : Int) ∧ i < 32768 := by
  unfold pagesL pgs at hn
  obtain ⟨h1, h2⟩ := List.mem_filter.1 hn
  obtain ⟨v, hv, rfl⟩ := List.mem_map.1 h1
  obtain ⟨k, hk, hv⟩ := mem_visT.1 hv
  have h0 : 0 ≤ v.1 := by simpa using h2
  rcases vis_page h root 2 root 0 k hr hk v hv with ⟨e, _⟩ | ⟨i, e, hi⟩
  · omega
  · exact ⟨i, e, (h.bound hi.1).2.2.2 rfl⟩
theorem add_str2 (W : World) (l : List UInt8) (s : ByteArray) (h : l.length ≤ 20000000) (hs : s.size ≤ 4096) : (Op.stringOp .add (⟨l.toArray⟩ : ByteArray) s).run Tryz.prog W = .ok (.string ⟨(l ++ s.data.toList).toArray⟩) W := by
  rw [run_string_add_sum W _ _ (by rw [str_size]; omega), str_add]
theorem page_nums (i : Nat) (hi : i < 32768) : wrap64 (256 * (i : Int)) = ((i * 256 : Nat) : Int) ∧ IntKind.i64.wrap (256 * (i : Int)) = ((i * 256 : Nat) : Int) ∧ IntKind.u64.wrap (((i * 256 : Nat) : Int)) = ((i * 256 : Nat) : Int) := by
  refine ⟨?_, i64_wrap_eq (by omega) (by omega), u64_wrap_lt _ (by omega)⟩
  unfold wrap64; omega
theorem y_in256 {S : Nat → Prop} {w : World} {q p rq r F : Nat} {s u : PS} {R : Roles} (h : FY S w q p rq r F s u) (hF : F ≤ 256) (g : SG F s R) (root : Nat) (hr : R root = some (root, 3, 0)) (X : Nat) :
    Calls Tryz.prog 10 #[.pointer (some ⟨q, 0, none⟩), .int .i64 root, .int .u64 X, .int .i64 256] w (StepY2 S w q p rq r F s u (inR s.V (adrs s.V F root X 1 256))) := by
  have c : ∀ S', Pl S' w q p F 0 s.Fr s.V → Calls Tryz.prog 10 #[.pointer (some ⟨q, 0, none⟩), .int .i64 root, .int .u64 X, .int .i64 256] w (StepF S' w q p F 0 s.Fr s.V (inR s.V (adrs s.V F root X 1 256))) := fun S' hp => sp_in hp hF g.wf root hr X 256 (by omega)
  exact h.left c
theorem inR_all (V : Nat → Nat) (F root : Nat) (i : Nat) : ∃ t e, inR V (adrs V F root (i * 256) 1 256) = .tuple #[.string t, .int .i64 e] ∧ t.size ≤ 256 ∧ t.data.toList = allP V F root (i : Int) := by
  have h := allP_len V F root (i : Int)
  unfold allP at h ⊢
  rw [Int.toNat_natCast] at h ⊢
  cases hx : adrs V F root (i * 256) 1 256 with
  | none => exact ⟨_, _, rfl, by decide, rfl⟩
  | some xs =>
    rw [hx] at h
    refine ⟨_, _, rfl, ?_, rfl⟩
    rw [str_size]
    exact h
theorem getD_getZ (l : List Int) (k : Nat) (h : k < l.length) : l.getD k 0 = l[k] := by rw [List.getD, List.getElem?_eq_getElem h]; rfl
theorem take_getD (l : List Int) (k : Nat) (h : k < l.length) : l.take (k + 1) = l.take k ++ [l.getD k 0] := by
  rw [List.take_add_one, List.getD, List.getElem?_eq_getElem h]
  rfl
set_option maxRecDepth 100000 in
set_option maxHeartbeats 1600000 in
theorem y_all {S : Nat → Prop} {w : World} {q p rq r F : Nat} {s u : PS} {R : Roles} (h : FY S w q p rq r F s u) (hF : F ≤ 256) (g : SG F s R) (root : Nat) (hr : R root = some (root, 3, 0)) :
    Calls Tryz.prog 16 #[.pointer (some ⟨q, 0, none⟩), .int .i64 root] w (StepY2 S w q p rq r F s u (.string ⟨(allL s.V F root (pagesL s.V root)).toArray⟩)) := by
  have KP := y_pages h hF g root hr
  have KI := Lib.hid (fun (S : Nat → Prop) (W : World) (H : FY S W q p rq r F s u) (X : Nat) => y_in256 H hF g root hr X)
  have PL := Lib.hid (fun n hn => page_lt (n := n) g.wf hr hn)
  have hlen : (pagesL s.V root).length ≤ 40000 := by
    have h1 := pgs_len (visT s.V 2 root 0 32)
    have h2 := visT_len s.V 2 root 0 32
    have h3 : 32 * 33 ^ 2 = 34848 := by decide
    rw [h3] at h2
    exact Nat.le_trans h1 (by omega)
  have KP := Lib.hid KP
  clear h hF g hr
  generalize pagesL s.V root = L at *
  go_enter Tryz.func16, Tryz.ntmps16
  go_wp2_with fail
  refine KP.out.mono ?_
  rintro e w1 ⟨sv, rfl, m1⟩
  obtain ⟨la, lc, rfl, _⟩ := nZ_form m1.row
  have M1 := Lib.hid m1; clear m1
  go_wp2_with fail
  go_loopw [7, 8] (fun t i wr => ∃ (k : Nat) (W' : World) (l : List UInt8), W' = wr ∧ i = .int .i64 k ∧ t = .string ⟨l.toArray⟩ ∧ k ≤ L.length ∧ Hid (l = allL s.V F root (L.take k)) ∧ Hid (RowY S w.heap.size 3 (nZ L) (.slice la L.length lc) q p rq r F s u w W')) (fun _ i _ => L.length - (intOf i).toNat)
  case atStart => exact ⟨0, _, [], rfl, rfl, rfl, Nat.zero_le _, Lib.hid rfl, M1⟩
  case round =>
    obtain ⟨k, wr, l, rfl, rfl, rfl, hk, HL, HR⟩ := hrel
    by_cases hlt : k < L.length
    · have d1 : decide ((k : Int) < (L.length : Int)) = true := decide_eq_true (by omega)
      obtain ⟨la2, lc2, hl, hc⟩ := nZ_form HR.out.row
      obtain ⟨rfl, _, rfl⟩ := Value.slice.inj hl
      obtain ⟨gg, rfl, _, cx⟩ := hc k hlt
      have hmem : L.getD k 0 ∈ L := by rw [getD_getZ L k hlt]; exact List.getElem_mem hlt
      obtain ⟨n, hn, hn2⟩ := PL.out _ hmem
      obtain ⟨p1, p2, p3⟩ := page_nums n hn2
      have hl2 : l.length ≤ 10240000 := by
        rw [HL.out]
        have h1 := allL_len s.V F root (L.take k)
        rw [List.length_take] at h1
        omega
      have NX := Lib.hid (show allL s.V F root (L.take (k + 1)) = l ++ allP s.V F root (n : Int) from by rw [take_getD L k hlt, allL_next, ← HL.out, hn])
      rw [hn] at cx
      obtain ⟨t, er, e1, e2, e3⟩ := inR_all s.V F root n
      have KI1 := KI.out _ _ HR.out.y (n * 256)
      rw [e1] at KI1
      generalize n * 256 = X at *
      have hadd := fun W => add_str2 W l t (by omega) (by omega)
      rw [e3, ← NX.out] at hadd
      have KI1 := Lib.hid KI1
      clear hmem hn hn2 e1 e3 hl hc hl2
      go_wp2_with fail
      refine KI1.out.mono ?_
      rintro e w2 ⟨rfl, m2, c2⟩
      have M2 := Lib.hid (HR.out.stepped (v := .int .u64 0) (e := .returned (.int .u64 0)) ⟨rfl, m2, c2⟩); clear m2 c2 p1 p2 p3
      go_wp2_with fail
      go_roundw
      case rel => exact ⟨k + 1, _, _, rfl, by go_num, rfl, by omega, Lib.hid rfl, M2⟩
      case measure => simp [intOf]; omega
    · have d1 : decide ((k : Int) < (L.length : Int)) = false := decide_eq_false (by omega)
      have hk2 : k = L.length := by omega
      have HE := Lib.hid (show l = allL s.V F root L from by rw [HL.out, hk2, List.take_length])
      go_wp2_with fail
      go_ret
      exact ⟨congrArg (fun x : List UInt8 => Ending.returned (.string ⟨x.toArray⟩)) HE.out, HR.out.y.weak (fun k hk => .inl hk), HR.out.chg⟩
end Go.Proofs.YtodjmfmenfncdaaGreat
