/-
  Several texts in one: PgDec, PgDec2, PgRef, PgLaw, PgDecR.
-/
import Derived.Test.YtijooajhjcfneaaGreatG24
import Derived.Laws.ResultCell
namespace Go.Proofs.YtijooajhjcfneaaGreat
open Go.RowKit

theorem run_min2 (W : World) (n m k : Nat) (hk : k = min n m) (ts : Array TypeId) (t : TypeId) : (Builtin.min_ ts t #[.int .i64 (n : Nat), .int .i64 (m : Nat)]).run Tryz.prog W = .ok (.int .i64 (k : Nat)) W := by
  have e : (Builtin.min_ ts t #[.int .i64 (n : Nat), .int .i64 (m : Nat)]).run Tryz.prog W = .ok (.int .i64 (if (m : Int) < (n : Int) then (m : Int) else (n : Int))) W := by simp [Builtin.min_, Builtin.min2]
  rw [e]
  by_cases c : (m : Int) < (n : Int)
  · rw [if_pos c, show k = m by omega]
  · rw [if_neg c, show k = n by omega]
/-- the function that cuts -/
def cutF (c : Nat) : Value := .func (.func 49) #[] #[.pointer (some ⟨c, 0, none⟩)]
set_option maxRecDepth 100000 in
theorem p_cut (w : World) (c : Nat) (r : ByteArray) (hb : Blk w c #[.string r] 9) (n : Nat) (hr : r.size ≤ 9223372036854775807) :
    Calls Tryz.prog 49 #[.int .i64 n, .pointer (some ⟨c, 0, none⟩)] w fun e w' => e = .returned (.string (r.extract 0 (min n r.size))) ∧ Blk w' c #[.string (r.extract (min n r.size) r.size)] 9 ∧ Chg (fun k => k = c) w w' := by
  obtain ⟨k, hk⟩ : ∃ k, k = min n r.size := ⟨_, rfl⟩
  rw [← hk]
  have c0 := hb.cellv 0 _ rfl
  have f0 := hb.free 0
  have hmin := fun W => run_min2 W n r.size k hk
  have y1 : (k : Int) ≤ (r.size : Int) := by omega
  have y0 : (0 : Int) ≤ (k : Int) := Int.natCast_nonneg k
  have NB := Lib.hid (show Blk (w.setCell ⟨c, 0, none⟩ (.string (r.extract k r.size))) c #[.string (r.extract k r.size)] 9 ∧ Chg (fun k => k = c) w (w.setCell ⟨c, 0, none⟩ (.string (r.extract k r.size))) from ⟨by simpa using hb.set 0 (.string (r.extract k r.size)), (Chg.refl _ w).setCell _ _ (.inl rfl)⟩)
  clear hk hb
  go_enter Tryz.func49, Tryz.ntmps49
  go_wp2_with fail
  go_ret
  exact ⟨rfl, NB.out.1, NB.out.2⟩
theorem wOf_lt32 (s : ByteArray) (h : s.size ≤ 4) : wOf s < 4294967296 := by
  have h1 := wOfN_lt s (min s.size 8)
  have h2 : min s.size 8 ≤ 4 := by omega
  have h3 : 256 ^ (min s.size 8) ≤ 256 ^ 4 := Nat.pow_le_pow_right (by decide) h2
  have h4 : (256 : Nat) ^ 4 = 4294967296 := by decide
  unfold wOf
  omega
set_option maxRecDepth 100000 in
theorem p_number (w : World) (c f : Nat) (r : ByteArray) (hb : Blk w c #[.string r] 9) (T : TypeId) (hf : Blk w f #[cutF c] T) (hr : r.size ≤ 9223372036854775807) :
    Calls Tryz.prog 50 #[.pointer (some ⟨f, 0, none⟩)] w fun e w' => e = .returned (.int .i64 (wOf (r.extract 0 (min 4 r.size)) : Nat)) ∧ Blk w' c #[.string (r.extract (min 4 r.size) r.size)] 9 ∧ Chg (fun k => k = c) w w' := by
  have c0 := hf.cellv 0 _ rfl
  have KC := p_cut w c r hb 4 hr
  rw [show ((4 : Nat) : Int) = 4 from rfl] at KC
  have hz : (r.extract 0 (min 4 r.size)).size ≤ 4 := by rw [ByteArray.size_extract]; omega
  generalize r.extract 0 (min 4 r.size) = t at *
  have KO := fun W => word_of W t (by unfold maxLen; omega)
  have hv := wOf_lt32 t hz
  generalize wOf t = v at *
  have hw : IntKind.i64.wrap (v : Int) = (v : Int) := i64_wrap_eq rfl (by omega)
  have KC := Lib.hid KC; have KO := Lib.hid KO
  unfold cutF at c0
  clear hb hf hz hv
  go_enter Tryz.func50, Tryz.ntmps50
  go_wp2_with fail
  refine KC.out.mono ?_
  rintro e w1 ⟨rfl, b1, c1⟩
  have B1 := Lib.hid (And.intro b1 c1); clear b1 c1
  go_wp2_with fail
  refine (KO.out w1).mono ?_
  rintro e w2 ⟨rfl, rfl⟩
  go_wp2_with fail
  go_ret
  exact ⟨rfl, B1.out⟩
end Go.Proofs.YtijooajhjcfneaaGreat

namespace Go.Proofs.YtijooajhjcfneaaGreat
open Go.RowKit

theorem tl_loop (s : ByteArray) : ∀ k i r, s.size - i = k → ByteArray.toList.loop s i r = r.reverse ++ s.data.toList.drop i := by
  intro k
  induction k with
  | zero =>
    intro i r h
    rw [ByteArray.toList.loop, if_neg (by omega), List.drop_eq_nil_of_le (by show s.data.toList.length ≤ i; rw [Array.length_toList]; show s.size ≤ i; omega), List.append_nil]
  | succ k ih =>
    intro i r h
    have hi : i < s.size := by omega
    rw [ByteArray.toList.loop, if_pos hi, ih (i + 1) _ (by omega)]
    have hl : i < s.data.toList.length := by rw [Array.length_toList]; exact hi
    rw [List.drop_eq_getElem_cons hl, List.reverse_cons, List.append_assoc]
    congr 2
    show [s.get! i] ++ _ = _
    have e : s.get! i = s.data.toList[i] := by
      rw [Array.getElem_toList]
      show s.data[i]! = _
      rw [getElem!_pos s.data i hi]
    rw [e]
    rfl
theorem tl_data (s : ByteArray) : s.toList = s.data.toList := by
  show ByteArray.toList.loop s 0 [] = _
  rw [tl_loop s (s.size) 0 [] rfl]
  rfl
theorem tl_ne {a b : ByteArray} (h : a ≠ b) : (a.toList == b.toList) = false := by
  rw [tl_data, tl_data]
  apply beq_false_of_ne
  intro e
  apply h
  apply ByteArray.ext
  exact Array.toList_inj.1 e
/-- what a file says, were it one -/
def posP (L p n : Nat) : Nat := min (p + n) L
def xOf (s : ByteArray) : Prg :=
  let L := s.size
  let p1 := posP L 0 4
  let p2 := posP L p1 4
  let p3 := posP L p2 4
  let p4 := posP L p3 4
  let p5 := posP L p4 4
  let p6 := posP L p5 12
  let n := wOf (s.extract p2 p3)
  let d := wOf (s.extract p3 p4)
  let p7 := posP L p6 n
  let p8 := posP L p7 d
  ⟨(wOf (s.extract p1 p2) : Nat), s.extract p6 p7, s.extract p7 p8, (wOf (s.extract p4 p5) : Nat)⟩
theorem cut_pos (s : ByteArray) (p n : Nat) (hp : p ≤ s.size) : (s.extract p s.size).extract 0 (min n (s.extract p s.size).size) = s.extract p (posP s.size p n) ∧ (s.extract p s.size).extract (min n (s.extract p s.size).size) (s.extract p s.size).size = s.extract (posP s.size p n) s.size ∧ posP s.size p n ≤ s.size := by
  have hz : (s.extract p s.size).size = s.size - p := by rw [ByteArray.size_extract]; omega
  rw [hz]
  unfold posP
  refine ⟨?_, ?_, by omega⟩
  · rw [ByteArray.extract_extract]
    congr 1
    omega
  · rw [ByteArray.extract_extract]
    congr 1
    · omega
    · omega
theorem ext_all (s : ByteArray) : s.extract 0 s.size = s := by
  apply ByteArray.ext
  simp
/-- the result's place, the rest, the function that cuts -/
structure DeA (w0 : World) (T : TypeId) (r : ByteArray) (W : World) : Prop where
  bh : Blk W w0.heap.size #[.int .i64 0, .string ⟨#[]⟩, .string ⟨#[]⟩, .int .i64 0] 23
  bc : Blk W (w0.heap.size + 1) #[.string r] 9
  bf : Blk W (w0.heap.size + 2) #[cutF (w0.heap.size + 1)] T
  chg : Chg (fun _ => False) w0 W
  sz : w0.heap.size + 3 ≤ W.heap.size
theorem DeA.start (w0 : World) (T : TypeId) (s : ByteArray) : DeA w0 T s (((w0.alloc (.cells #[.int .i64 0, .string ⟨#[]⟩, .string ⟨#[]⟩, .int .i64 0] 23)).alloc (.cells #[.string s] 9)).alloc (.cells #[cutF (w0.heap.size + 1)] T)) := by
  have z1 : (w0.alloc (.cells #[.int .i64 0, .string ⟨#[]⟩, .string ⟨#[]⟩, .int .i64 0] 23)).heap.size = w0.heap.size + 1 := by simp
  refine ⟨((Blk.new w0 _ _).alloc _).alloc _, ?_, ?_, (((Chg.refl _ w0).alloc _).alloc _).alloc _, by simp⟩
  · have h := Blk.new (w0.alloc (.cells #[.int .i64 0, .string ⟨#[]⟩, .string ⟨#[]⟩, .int .i64 0] 23)) #[.string s] 9
    rw [z1] at h
    exact h.alloc _
  · have h := Blk.new ((w0.alloc (.cells #[.int .i64 0, .string ⟨#[]⟩, .string ⟨#[]⟩, .int .i64 0] 23)).alloc (.cells #[.string s] 9)) #[cutF (w0.heap.size + 1)] T
    have z2 : ((w0.alloc (.cells #[.int .i64 0, .string ⟨#[]⟩, .string ⟨#[]⟩, .int .i64 0] 23)).alloc (.cells #[.string s] 9)).heap.size = w0.heap.size + 2 := by simp
    rw [z2] at h
    exact h
theorem DeA.cut {w0 W W' : World} {T : TypeId} {r r' : ByteArray} (h : DeA w0 T r W) (b : Blk W' (w0.heap.size + 1) #[.string r'] 9) (c : Chg (fun k => k = w0.heap.size + 1) W W') : DeA w0 T r' W' :=
  ⟨c.blk h.bh (by omega), b, c.blk h.bf (by omega), h.chg.trans' c (fun i hi => .inr (by omega)), Nat.le_trans h.sz c.size⟩
theorem DeA.nothing {w0 W W' : World} {T : TypeId} {r : ByteArray} (h : DeA w0 T r W) (c : Chg (fun _ => False) W W') : DeA w0 T r W' :=
  ⟨c.blk h.bh (fun a => a), c.blk h.bc (fun a => a), c.blk h.bf (fun a => a), h.chg.trans c, Nat.le_trans h.sz c.size⟩
/-- .. and the program that comes to be -/
structure DeB (w0 : World) (T : TypeId) (xb : Nat) (x : Array Value) (r : ByteArray) (W : World) : Prop where
  a : DeA w0 T r W
  bx : Blk W xb x 23
  le : w0.heap.size + 3 ≤ xb
theorem DeB.new {w0 W : World} {T : TypeId} {r : ByteArray} (h : DeA w0 T r W) (x : Array Value) : DeB w0 T W.heap.size x r (W.alloc (.cells x 23)) :=
  ⟨h.nothing ((Chg.refl _ W).alloc _), Blk.new W _ _, h.sz⟩
theorem DeB.cut {w0 W W' : World} {T : TypeId} {xb : Nat} {x : Array Value} {r r' : ByteArray} (h : DeB w0 T xb x r W) (b : Blk W' (w0.heap.size + 1) #[.string r'] 9) (c : Chg (fun k => k = w0.heap.size + 1) W W') : DeB w0 T xb x r' W' :=
  ⟨h.a.cut b c, c.blk h.bx (by have := h.le; omega), h.le⟩
theorem DeB.nothing {w0 W W' : World} {T : TypeId} {xb : Nat} {x : Array Value} {r : ByteArray} (h : DeB w0 T xb x r W) (c : Chg (fun _ => False) W W') : DeB w0 T xb x r W' :=
  ⟨h.a.nothing c, c.blk h.bx (fun a => a), h.le⟩
theorem DeB.set {w0 W : World} {T : TypeId} {xb : Nat} {x : Array Value} {r : ByteArray} (h : DeB w0 T xb x r W) (i : Nat) (v : Value) : DeB w0 T xb (x.setIfInBounds i v) r (W.setCell ⟨xb, i, none⟩ v) := by
  have c : Chg (fun k => k = xb) W (W.setCell ⟨xb, i, none⟩ v) := (Chg.refl _ W).setCell _ _ (.inl rfl)
  have := h.le
  exact ⟨⟨c.blk h.a.bh (by omega), c.blk h.a.bc (by omega), c.blk h.a.bf (by omega), h.a.chg.trans' c (fun i hi => .inr (by omega)), Nat.le_trans h.a.sz c.size⟩, h.bx.set i v, h.le⟩
theorem de_cutA {w0 W : World} {T : TypeId} {s : ByteArray} {p : Nat} (h : DeA w0 T (s.extract p s.size) W) (hp : p ≤ s.size) (n : Nat) (hs : s.size ≤ 9223372036854775807) :
    Calls Tryz.prog 49 #[.int .i64 n, .pointer (some ⟨w0.heap.size + 1, 0, none⟩)] W fun e w' => e = .returned (.string (s.extract p (posP s.size p n))) ∧ DeA w0 T (s.extract (posP s.size p n) s.size) w' := by
  obtain ⟨e1, e2, _⟩ := cut_pos s p n hp
  refine (p_cut W _ _ h.bc n (by rw [ByteArray.size_extract]; omega)).mono ?_
  rintro e w' ⟨rfl, b, c⟩
  rw [e1]
  rw [e2] at b
  exact ⟨rfl, h.cut b c⟩
theorem de_numA {w0 W : World} {T : TypeId} {s : ByteArray} {p : Nat} (h : DeA w0 T (s.extract p s.size) W) (hp : p ≤ s.size) (hs : s.size ≤ 9223372036854775807) :
    Calls Tryz.prog 50 #[.pointer (some ⟨w0.heap.size + 2, 0, none⟩)] W fun e w' => e = .returned (.int .i64 (wOf (s.extract p (posP s.size p 4)) : Nat)) ∧ DeA w0 T (s.extract (posP s.size p 4) s.size) w' := by
  obtain ⟨e1, e2, _⟩ := cut_pos s p 4 hp
  refine (p_number W _ _ _ h.bc T h.bf (by rw [ByteArray.size_extract]; omega)).mono ?_
  rintro e w' ⟨rfl, b, c⟩
  rw [e1]
  rw [e2] at b
  exact ⟨rfl, h.cut b c⟩
theorem de_cutB {w0 W : World} {T : TypeId} {xb : Nat} {x : Array Value} {s : ByteArray} {p : Nat} (h : DeB w0 T xb x (s.extract p s.size) W) (hp : p ≤ s.size) (n : Nat) (hs : s.size ≤ 9223372036854775807) :
    Calls Tryz.prog 49 #[.int .i64 n, .pointer (some ⟨w0.heap.size + 1, 0, none⟩)] W fun e w' => e = .returned (.string (s.extract p (posP s.size p n))) ∧ DeB w0 T xb x (s.extract (posP s.size p n) s.size) w' := by
  obtain ⟨e1, e2, _⟩ := cut_pos s p n hp
  refine (p_cut W _ _ h.a.bc n (by rw [ByteArray.size_extract]; omega)).mono ?_
  rintro e w' ⟨rfl, b, c⟩
  rw [e1]
  rw [e2] at b
  exact ⟨rfl, h.cut b c⟩
theorem de_numB {w0 W : World} {T : TypeId} {xb : Nat} {x : Array Value} {s : ByteArray} {p : Nat} (h : DeB w0 T xb x (s.extract p s.size) W) (hp : p ≤ s.size) (hs : s.size ≤ 9223372036854775807) :
    Calls Tryz.prog 50 #[.pointer (some ⟨w0.heap.size + 2, 0, none⟩)] W fun e w' => e = .returned (.int .i64 (wOf (s.extract p (posP s.size p 4)) : Nat)) ∧ DeB w0 T xb x (s.extract (posP s.size p 4) s.size) w' := by
  obtain ⟨e1, e2, _⟩ := cut_pos s p 4 hp
  refine (p_number W _ _ _ h.a.bc T h.a.bf (by rw [ByteArray.size_extract]; omega)).mono ?_
  rintro e w' ⟨rfl, b, c⟩
  rw [e1]
  rw [e2] at b
  exact ⟨rfl, h.cut b c⟩
/-- the result is laid down -/
theorem DeA.fin {w0 W : World} {T : TypeId} {r : ByteArray} (h : DeA w0 T r W) (a b c d : Value) : Blk ((((W.setCell ⟨w0.heap.size, 0, none⟩ a).setCell ⟨w0.heap.size, 1, none⟩ b).setCell ⟨w0.heap.size, 2, none⟩ c).setCell ⟨w0.heap.size, 3, none⟩ d) w0.heap.size #[a, b, c, d] 23 ∧ Chg (fun _ => False) w0 ((((W.setCell ⟨w0.heap.size, 0, none⟩ a).setCell ⟨w0.heap.size, 1, none⟩ b).setCell ⟨w0.heap.size, 2, none⟩ c).setCell ⟨w0.heap.size, 3, none⟩ d) := by
  have k := (((h.bh.set 0 a).set 1 b).set 2 c).set 3 d
  exact ⟨by simpa using k, (((h.chg.setCell _ _ (.inr (Nat.le_refl _))).setCell _ _ (.inr (Nat.le_refl _))).setCell _ _ (.inr (Nat.le_refl _))).setCell _ _ (.inr (Nat.le_refl _))⟩
def decV (s : ByteArray) : Value := if (xOf s).may = true ∧ encB (xOf s) = s then .tuple #[(xOf s).val, .int .i64 0] else .tuple #[.agg #[.int .i64 0, .string ⟨#[]⟩, .string ⟨#[]⟩, .int .i64 0], .int .i64 6]
theorem posP_le (L p n : Nat) : posP L p n ≤ L := by unfold posP; omega
set_option maxRecDepth 100000 in
set_option maxHeartbeats 1600000 in
theorem p_decode (w : World) (s : ByteArray) (hs : s.size ≤ 9223372036854775807) :
    Calls Tryz.prog 23 #[.string s] w fun e w' => e = .returned (decV s) ∧ Chg (fun _ => False) w w' := by
  have ST := Lib.hid (fun T => DeA.start w T s)
  have HS := Lib.hid hs
  obtain ⟨L, hL⟩ : ∃ L, L = s.size := ⟨_, rfl⟩
  obtain ⟨p1, h1⟩ : ∃ p, p = posP s.size 0 4 := ⟨_, rfl⟩
  obtain ⟨p2, h2⟩ : ∃ p, p = posP s.size p1 4 := ⟨_, rfl⟩
  obtain ⟨p3, h3⟩ : ∃ p, p = posP s.size p2 4 := ⟨_, rfl⟩
  obtain ⟨p4, h4⟩ : ∃ p, p = posP s.size p3 4 := ⟨_, rfl⟩
  obtain ⟨p5, h5⟩ : ∃ p, p = posP s.size p4 4 := ⟨_, rfl⟩
  obtain ⟨p6, h6⟩ : ∃ p, p = posP s.size p5 12 := ⟨_, rfl⟩
  obtain ⟨en, hen⟩ : ∃ n, n = wOf (s.extract p1 p2) := ⟨_, rfl⟩
  obtain ⟨n, hn⟩ : ∃ n, n = wOf (s.extract p2 p3) := ⟨_, rfl⟩
  obtain ⟨d, hd⟩ : ∃ n, n = wOf (s.extract p3 p4) := ⟨_, rfl⟩
  obtain ⟨b, hb⟩ : ∃ n, n = wOf (s.extract p4 p5) := ⟨_, rfl⟩
  obtain ⟨p7, h7⟩ : ∃ p, p = posP s.size p6 n := ⟨_, rfl⟩
  obtain ⟨p8, h8⟩ : ∃ p, p = posP s.size p7 d := ⟨_, rfl⟩
  have hX : xOf s = ⟨(en : Nat), s.extract p6 p7, s.extract p7 p8, (b : Nat)⟩ := by
    unfold xOf
    simp only
    rw [← h1, ← h2, ← h3, ← h4, ← h5, ← h6, ← hn, ← hd, ← h7, ← h8, ← hen, ← hb]
  have K1 := fun W T (H : DeA w T (s.extract 0 s.size) W) => de_cutA H (Nat.zero_le _) 4 hs
  rw [← h1, show ((4 : Nat) : Int) = 4 from rfl] at K1
  have K2 := fun W T (H : DeA w T (s.extract p1 s.size) W) => de_numA H (h1 ▸ posP_le _ _ _) hs
  rw [← h2, ← hen] at K2
  have K3 := fun W T xb x (H : DeB w T xb x (s.extract p2 s.size) W) => de_numB H (h2 ▸ posP_le _ _ _) hs
  rw [← h3, ← hn] at K3
  have K4 := fun W T xb x (H : DeB w T xb x (s.extract p3 s.size) W) => de_numB H (h3 ▸ posP_le _ _ _) hs
  rw [← h4, ← hd] at K4
  have K5 := fun W T xb x (H : DeB w T xb x (s.extract p4 s.size) W) => de_numB H (h4 ▸ posP_le _ _ _) hs
  rw [← h5, ← hb] at K5
  have K6 := fun W T xb x (H : DeB w T xb x (s.extract p5 s.size) W) => de_cutB H (h5 ▸ posP_le _ _ _) 12 hs
  rw [← h6, show ((12 : Nat) : Int) = 12 from rfl] at K6
  have K7 := fun W T xb x (H : DeB w T xb x (s.extract p6 s.size) W) => de_cutB H (h6 ▸ posP_le _ _ _) n hs
  rw [← h7] at K7
  have K8 := fun W T xb x (H : DeB w T xb x (s.extract p7 s.size) W) => de_cutB H (h7 ▸ posP_le _ _ _) d hs
  rw [← h8] at K8
  have SM : (xOf s).Small := by
    rw [hX]
    exact ⟨by show (s.extract p6 p7).size ≤ _; rw [ByteArray.size_extract]; omega, by show (s.extract p7 p8).size ≤ _; rw [ByteArray.size_extract]; omega⟩
  have K9 := fun W => p_encode W (xOf s) SM
  rw [ext_all] at K1
  unfold decV
  rw [hX] at K9 ⊢
  generalize s.extract p6 p7 = text at *
  generalize s.extract p7 p8 = data at *
  generalize s.extract 0 p1 = g1 at *
  generalize s.extract p5 p6 = g2 at *
  have K1 := Lib.hid K1; have K2 := Lib.hid K2; have K3 := Lib.hid K3; have K4 := Lib.hid K4; have K5 := Lib.hid K5; have K6 := Lib.hid K6; have K7 := Lib.hid K7; have K8 := Lib.hid K8; have K9 := Lib.hid K9
  clear h1 h2 h3 h4 h5 h6 h7 h8 hen hn hd hb hX SM hs hL
  generalize hXX : (⟨(en : Nat), text, data, (b : Nat)⟩ : Prg) = X at *
  have hXV : X.val = .agg #[.int .i64 (en : Nat), .string text, .string data, .int .i64 (b : Nat)] := by rw [← hXX]; rfl
  rw [hXV]
  generalize hDV : (if X.may = true ∧ encB X = s then Value.tuple #[.agg #[.int .i64 (en : Nat), .string text, .string data, .int .i64 (b : Nat)], .int .i64 0] else .tuple #[.agg #[.int .i64 0, .string ⟨#[]⟩, .string ⟨#[]⟩, .int .i64 0], .int .i64 6]) = DV
  have HDV := Lib.hid hDV
  clear hDV hXV
  go_enter Tryz.func23, Tryz.ntmps23
  go_wp2_with fail
  refine (K1.out _ _ (ST.out _)).mono ?_
  rintro e w1 ⟨rfl, m1⟩
  have M1 := Lib.hid m1
  have cf := m1.bf.cellv 0 _ rfl
  unfold cutF at cf
  rw [show w.heap.size + 2 = w.heap.size + 1 + 1 from rfl] at cf
  clear m1
  go_wp2_with fail
  refine (K2.out _ _ M1.out).mono ?_
  rintro e w2 ⟨rfl, m2⟩
  have M2 := Lib.hid (DeB.new m2 #[.int .i64 (en : Nat), .string ⟨#[]⟩, .string ⟨#[]⟩, .int .i64 0])
  clear m2
  go_wp2_with fail
  refine (K3.out _ _ _ _ M2.out).mono ?_
  rintro e w3 ⟨rfl, m3⟩
  have M3 := Lib.hid m3; clear m3
  go_wp2_with fail
  refine (K4.out _ _ _ _ M3.out).mono ?_
  rintro e w4 ⟨rfl, m4⟩
  have M4 := Lib.hid m4; clear m4
  go_wp2_with fail
  refine (K5.out _ _ _ _ M4.out).mono ?_
  rintro e w5 ⟨rfl, m5⟩
  have fx := m5.bx.free 3
  have M5 := Lib.hid (m5.set 3 (.int .i64 (b : Nat)))
  have cx3 := m5.bx.cellv 3 _ rfl
  clear m5
  have cf5 := M5.out.a.bf.cellv 0 _ rfl
  unfold cutF at cf5
  rw [show w.heap.size + 2 = w.heap.size + 1 + 1 from rfl] at cf5
  go_wp2_with fail
  refine (K6.out _ _ _ _ M5.out).mono ?_
  rintro e w6 ⟨rfl, m6⟩
  have M6 := Lib.hid m6
  have cf6 := m6.a.bf.cellv 0 _ rfl
  unfold cutF at cf6
  rw [show w.heap.size + 2 = w.heap.size + 1 + 1 from rfl] at cf6
  clear m6 cf cf5
  go_wp2_with fail
  refine (K7.out _ _ _ _ M6.out).mono ?_
  rintro e w7 ⟨rfl, m7⟩
  have f7 := m7.bx.free 1
  have c7 := m7.bx.cellv 1 _ rfl
  have M7 := Lib.hid (m7.set 1 (.string text))
  have cf7 := M7.out.a.bf.cellv 0 _ rfl
  unfold cutF at cf7
  rw [show w.heap.size + 2 = w.heap.size + 1 + 1 from rfl] at cf7
  clear m7
  go_wp2_with fail
  refine (K8.out _ _ _ _ M7.out).mono ?_
  rintro e w8 ⟨rfl, m8⟩
  have f8 := m8.bx.free 2
  have c8 := m8.bx.cellv 2 _ rfl
  have M8 := Lib.hid (m8.set 2 (.string data))
  have e8 : ((((#[.int .i64 (en : Nat), .string ⟨#[]⟩, .string ⟨#[]⟩, .int .i64 0] : Array Value).setIfInBounds 3 (.int .i64 (b : Nat))).setIfInBounds 1 (.string text)).setIfInBounds 2 (.string data)) = #[.int .i64 (en : Nat), .string text, .string data, .int .i64 (b : Nat)] := rfl
  rw [e8] at M8
  have x0 := M8.out.bx.cellv 0 _ rfl
  have x1 := M8.out.bx.cellv 1 _ rfl
  have x2 := M8.out.bx.cellv 2 _ rfl
  have x3 := M8.out.bx.cellv 3 _ rfl
  clear m8 e8
  have K9b := K9.out (w8.setCell ⟨w2.heap.size, 2, none⟩ (.string data))
  rw [← hXX] at K9b
  unfold Prg.val at K9b
  simp only at K9b
  rw [hXX] at K9b
  have K9b := Lib.hid K9b
  go_wp2_with fail
  refine K9b.out.mono ?_
  rintro e w9 ⟨rfl, c9⟩
  have M9 := Lib.hid (M8.out.nothing c9)
  have x0 := M9.out.bx.cellv 0 _ rfl
  have x1 := M9.out.bx.cellv 1 _ rfl
  have x2 := M9.out.bx.cellv 2 _ rfl
  have x3 := M9.out.bx.cellv 3 _ rfl
  have y0 := M9.out.a.bh.free 0
  have y1 := M9.out.a.bh.free 1
  have y2 := M9.out.a.bh.free 2
  have y3 := M9.out.a.bh.free 3
  have q0 := M9.out.a.bh.cellv 0 _ rfl
  have q1 := M9.out.a.bh.cellv 1 _ rfl
  have q2 := M9.out.a.bh.cellv 2 _ rfl
  have q3 := M9.out.a.bh.cellv 3 _ rfl
  have FIN := Lib.hid M9.out.a.chg
  clear c9 K9b
  cases hm : X.may with
  | false =>
    have e1 : encV X = .tuple #[.string ⟨#[]⟩, .int .i64 6] := by unfold encV; rw [hm]; rfl
    have e2 := HDV.out
    rw [if_neg (by rw [hm]; rintro ⟨h, _⟩; cases h)] at e2
    have E2 := Lib.hid e2
    clear e2
    rw [e1]
    go_wp2_with fail
    have FB := M9.out.a.fin (.int .i64 0) (.string ⟨#[]⟩) (.string ⟨#[]⟩) (.int .i64 0)
    generalize ((((w9.setCell ⟨w.heap.size, 0, none⟩ (.int .i64 0)).setCell ⟨w.heap.size, 1, none⟩ (.string ⟨#[]⟩)).setCell ⟨w.heap.size, 2, none⟩ (.string ⟨#[]⟩)).setCell ⟨w.heap.size, 3, none⟩ (.int .i64 0)) = WE at *
    have r0 := FB.1.cellv 0 _ rfl
    have r1 := FB.1.cellv 1 _ rfl
    have r2 := FB.1.cellv 2 _ rfl
    have r3 := FB.1.cellv 3 _ rfl
    (try simp only [Exit.inBlock, Exit.then])
    refine bodyPost_ret (v := .tuple #[.agg #[.int .i64 0, .string ⟨#[]⟩, .string ⟨#[]⟩, .int .i64 0], .int .i64 6]) ?_ rfl ⟨congrArg Ending.returned E2.out, FB.2⟩
    rw [results_cell_tmp rfl]
    go_simp
  | true =>
    have e1 : encV X = .tuple #[.string (encB X), .int .i64 0] := by unfold encV; rw [if_pos hm]
    rw [e1]
    by_cases hq : encB X = s
    · have z1 : ((encB X).toList == s.toList) = true := by rw [hq]; simp
      have e2 := HDV.out
      rw [if_pos ⟨hm, hq⟩] at e2
      have E2 := Lib.hid e2
      clear e2 HDV hq
      generalize encB X = eb at *
      go_wp2_with fail
      have FB := M9.out.a.fin (.int .i64 (en : Nat)) (.string text) (.string data) (.int .i64 (b : Nat))
      generalize ((((w9.setCell ⟨w.heap.size, 0, none⟩ (.int .i64 (en : Nat))).setCell ⟨w.heap.size, 1, none⟩ (.string text)).setCell ⟨w.heap.size, 2, none⟩ (.string data)).setCell ⟨w.heap.size, 3, none⟩ (.int .i64 (b : Nat))) = WE at *
      have r0 := FB.1.cellv 0 _ rfl
      have r1 := FB.1.cellv 1 _ rfl
      have r2 := FB.1.cellv 2 _ rfl
      have r3 := FB.1.cellv 3 _ rfl
      (try simp only [Exit.inBlock, Exit.then])
      refine bodyPost_ret (v := .tuple #[.agg #[.int .i64 (en : Nat), .string text, .string data, .int .i64 (b : Nat)], .int .i64 0]) ?_ rfl ⟨congrArg Ending.returned E2.out, FB.2⟩
      rw [results_cell_tmp rfl]
      go_simp
    · have z1 := tl_ne hq
      have e2 := HDV.out
      rw [if_neg (fun h => hq h.2)] at e2
      have E2 := Lib.hid e2
      clear e2 HDV hq
      generalize encB X = eb at *
      go_wp2_with fail
      have FB := M9.out.a.fin (.int .i64 0) (.string ⟨#[]⟩) (.string ⟨#[]⟩) (.int .i64 0)
      generalize ((((w9.setCell ⟨w.heap.size, 0, none⟩ (.int .i64 0)).setCell ⟨w.heap.size, 1, none⟩ (.string ⟨#[]⟩)).setCell ⟨w.heap.size, 2, none⟩ (.string ⟨#[]⟩)).setCell ⟨w.heap.size, 3, none⟩ (.int .i64 0)) = WE at *
      have r0 := FB.1.cellv 0 _ rfl
      have r1 := FB.1.cellv 1 _ rfl
      have r2 := FB.1.cellv 2 _ rfl
      have r3 := FB.1.cellv 3 _ rfl
      (try simp only [Exit.inBlock, Exit.then])
      refine bodyPost_ret (v := .tuple #[.agg #[.int .i64 0, .string ⟨#[]⟩, .string ⟨#[]⟩, .int .i64 0], .int .i64 6]) ?_ rfl ⟨congrArg Ending.returned E2.out, FB.2⟩
      rw [results_cell_tmp rfl]
      go_simp
end Go.Proofs.YtijooajhjcfneaaGreat

namespace Go.Proofs.YtijooajhjcfneaaGreat
open Go.RowKit

theorem q_pages12 (w : World) (n : Nat) (h : n ≤ 100000) : Calls Tryz.prog 62 #[.int .i64 n] w fun e w' => e = .returned (.int .i64 (pagesN n : Nat)) ∧ w = w' := by
  obtain ⟨d, hd⟩ : ∃ d, d = n / 256 := ⟨_, rfl⟩
  obtain ⟨m, hm⟩ : ∃ m, m = n % 256 := ⟨_, rfl⟩
  have q1 : (n : Int).tdiv 256 = (d : Int) := by rw [Int.tdiv_eq_ediv_of_nonneg (by omega)]; omega
  have q2 : (n : Int) / 256 = (d : Int) := by omega
  have q3 : (n : Int).tmod 256 = (m : Int) := by rw [Int.tmod_eq_emod_of_nonneg (by omega)]; omega
  have q4 : (n : Int) % 256 = (m : Int) := by omega
  have w1 : wrap64 (d : Int) = (d : Int) := by unfold wrap64; omega
  have w2 : wrap64 ((d : Int) + 1) = (d : Int) + 1 := by unfold wrap64; omega
  by_cases c : 0 < m
  · have d1 : decide ((0 : Int) < (m : Int)) = true := decide_eq_true (by omega)
    have e : pagesN n = d + 1 := by unfold pagesN; omega
    rw [e]
    clear hd hm e
    go_enter Tryz.func62, Tryz.ntmps62
    go_wp2_with fail
    go_ret
    exact ⟨by simp, rfl⟩
  · have d1 : decide ((0 : Int) < (m : Int)) = false := decide_eq_false (by omega)
    have e : pagesN n = d := by unfold pagesN; omega
    rw [e]
    clear hd hm e
    go_enter Tryz.func62, Tryz.ntmps62
    go_wp2_with fail
    go_ret
    exact ⟨rfl, rfl⟩
set_option maxRecDepth 100000 in
set_option maxHeartbeats 1600000 in
theorem q_size (w : World) (x : Prg) (h : x.Small) :
    Calls Tryz.prog 35 #[x.val] w fun r w' => r = .returned (sizeV2 x) ∧ Chg (fun _ => False) w w' := by
  have KM := Lib.hid (fun W => q_may W x h)
  cases hm : x.may with
  | false =>
    rw [hm] at KM
    have e : sizeV2 x = .tuple #[.int .i64 0, .int .i64 0] := by unfold sizeV2; rw [hm]; rfl
    rw [e]
    have C0 := Lib.hid ((Chg.refl (fun _ => False) w).alloc (.cells #[.int .i64 x.entry, .string x.text, .string x.data, .int .i64 x.bss] 23))
    unfold Prg.val at *
    go_enter Tryz.func35, Tryz.ntmps35
    go_wp2_with fail
    refine (KM.out _).mono ?_
    rintro e w1 ⟨rfl, c1⟩
    have C1 := Lib.hid (C0.out.trans c1); clear c1
    go_wp2_with fail
    go_ret2
    exact ⟨rfl, C1.out⟩
  | true =>
    rw [hm] at KM
    have e : sizeV2 x = .tuple #[.int .i64 (pagesN x.text.size : Nat), .int .i64 (pagesN (x.data.size + x.bss.toNat) : Nat)] := by unfold sizeV2; rw [if_pos hm]
    rw [e]
    obtain ⟨m1, m2, m3, m4, m5, m6, m7, m8, m9, m10⟩ := may_nums hm
    obtain ⟨en, text, data, bs⟩ := x
    obtain ⟨b, rfl⟩ := Int.eq_ofNat_of_zero_le m8
    have m9' : b ≤ 4096 := by have : ((b : Nat) : Int) ≤ 4096 := m9; omega
    simp only [Int.toNat_natCast]
    have C0 := Lib.hid ((Chg.refl (fun _ => False) w).alloc (.cells #[.int .i64 en, .string text, .string data, .int .i64 (b : Int)] 23))
    have hB := Blk.new w #[.int .i64 en, .string text, .string data, .int .i64 (b : Int)] 23
    unfold Prg.val at *
    simp only at *
    have HB := Lib.hid hB
    clear hB
    generalize hn : text.size = n at *
    generalize hd : data.size = d at *
    have K1 := Lib.hid (fun W => q_pages12 W n (by omega))
    have K2 := fun W => q_pages12 W (d + b) (by omega)
    rw [show ((d + b : Nat) : Int) = (d : Int) + (b : Int) from by omega] at K2
    have K2 := Lib.hid K2
    have ws : IntKind.i64.wrap ((d : Int) + (b : Int)) = (d : Int) + (b : Int) := i64_wrap_eq rfl (by omega)
    have ws2 : wrap64 ((d : Int) + (b : Int)) = (d : Int) + (b : Int) := by unfold wrap64; omega
    generalize pagesN n = pn at *
    generalize pagesN (d + b) = pd at *
    clear m1 m2 m3 m4 m5 m6 m7 m8 m9 m10 m9' hm e h
    go_enter Tryz.func35, Tryz.ntmps35
    go_wp2_with fail
    refine (KM.out _).mono ?_
    rintro e w1 ⟨rfl, c1⟩
    have C1 := Lib.hid (C0.out.trans c1)
    have B1 := c1.blk HB.out (fun a => a)
    have x1 := B1.cellv 1 _ rfl
    have x2 := B1.cellv 2 _ rfl
    have x3 := B1.cellv 3 _ rfl
    clear c1 B1
    go_wp2_with fail
    go_quiet ((go_at_call 62; (first | with_reducible exact quiet_left (K1.out _) | with_reducible exact quiet_left (K2.out _))))
    go_wp2_with fail
    go_ret2
    exact ⟨rfl, C1.out.drewN _⟩
/-- the program's block, in a world behind calls that change nothing -/
structure EncK (w0 : World) (bx : Nat) (cs : Array Value) (W : World) : Prop where
  b : Blk W bx cs 23
  c : Chg (fun _ => False) w0 W
theorem EncK.step {w0 W W' : World} {bx : Nat} {cs : Array Value} (h : EncK w0 bx cs W) (c : Chg (fun _ => False) W W') : EncK w0 bx cs W' := ⟨c.blk h.b (fun a => a), h.c.trans c⟩
theorem EncK.drew {w0 W : World} {bx : Nat} {cs : Array Value} (h : EncK w0 bx cs W) : EncK w0 bx cs W.drew := h.step (Chg.refl _ _).drew
theorem EncK.cells {w0 W : World} {bx : Nat} {a b c d : Value} (h : EncK w0 bx #[a, b, c, d] W) : W.cell? ⟨bx, 0, none⟩ = some a ∧ W.cell? ⟨bx, 1, none⟩ = some b ∧ W.cell? ⟨bx, 2, none⟩ = some c ∧ W.cell? ⟨bx, 3, none⟩ = some d :=
  ⟨h.b.cellv 0 _ rfl, h.b.cellv 1 _ rfl, h.b.cellv 2 _ rfl, h.b.cellv 3 _ rfl⟩
theorem memStr_zeros : memStr (fun _ => 0) 0 12 = zerosB 12 := by decide +kernel
theorem make12 (W : World) : (Instr.makeSlice 51 (.int .i64 12) (.int .i64 12)).run Tryz.prog W = .ok (.slice (some ⟨W.heap.size, 0, none⟩) 12 12) (W.alloc (.cells (zeros 12) ByT)) := make_bytes W 12 (by decide)
theorem conv12 (W : World) : (convert 51 9 (.slice (some ⟨W.heap.size, 0, none⟩) 12 12)).run Tryz.prog (W.alloc (.cells (zeros 12) ByT)) = .ok (.string (zerosB 12)) (W.alloc (.cells (zeros 12) ByT)) := by
  rw [row_string (W.alloc (.cells (zeros 12) ByT)) W.heap.size 12 (fun _ => 0) (row_zeros W 12) 0 0 12 12 (fun _ => rfl) (by decide), memStr_zeros]
theorem conv12d (W : World) : (convert 51 9 (.slice (some ⟨W.heap.size, 0, none⟩) 12 12)).run Tryz.prog (W.alloc (.cells (zeros 12) ByT)).drew = .ok (.string (zerosB 12)) (W.alloc (.cells (zeros 12) ByT)).drew := by
  have hr : Row (W.alloc (.cells (zeros 12) ByT)).drew W.heap.size 12 (fun _ => 0) := by
    obtain ⟨cs, h1, h2⟩ := row_zeros W 12
    exact ⟨cs, h1.drew, h2⟩
  rw [row_string _ W.heap.size 12 (fun _ => 0) hr 0 0 12 12 (fun _ => rfl) (by decide), memStr_zeros]
end Go.Proofs.YtijooajhjcfneaaGreat

namespace Go.Proofs.YtijooajhjcfneaaGreat
open Go.RowKit

theorem ext_app (a b c : ByteArray) (i j : Nat) (hi : i = a.size) (hj : j = a.size + b.size) : (a ++ b ++ c).extract i j = b := by
  subst hi hj
  have h1 : (a ++ b).size = a.size + b.size := ByteArray.size_append
  rw [ByteArray.extract_append, ByteArray.extract_append, h1]
  have e1 : a.extract a.size (a.size + b.size) = ⟨#[]⟩ := by
    apply ByteArray.ext
    rw [ByteArray.data_extract]
    apply Array.eq_empty_of_size_eq_zero
    rw [Array.size_extract]
    show min (a.size + b.size) a.size - a.size = 0
    omega
  have e2 : c.extract (a.size - (a.size + b.size)) (a.size + b.size - (a.size + b.size)) = ⟨#[]⟩ := by
    apply ByteArray.ext
    rw [ByteArray.data_extract]
    apply Array.eq_empty_of_size_eq_zero
    rw [Array.size_extract]
    omega
  rw [e1, e2, show a.size - a.size = 0 by omega, show a.size + b.size - a.size = b.size by omega, ext_all]
  apply ByteArray.ext
  simp
theorem wOf_w4 (v : Nat) (h : v < 4294967296) : wOf (wBytes v 4) = v := by
  rw [wOf_wBytes v (by omega) 4]
  have e : (8 * (wCount 4 : Int)) = 32 := by decide
  rw [e]
  unfold wLow
  simp
  omega
/-- the parts of a file -/
theorem enc_parts (x : Prg) : (encB x).extract 0 4 = magicB ∧ (encB x).extract 4 8 = wBytes x.entry.toNat 4 ∧ (encB x).extract 8 12 = wBytes x.text.size 4 ∧ (encB x).extract 12 16 = wBytes x.data.size 4 ∧ (encB x).extract 16 20 = wBytes x.bss.toNat 4 ∧ (encB x).extract 20 32 = zerosB 12 ∧ (encB x).extract 32 (32 + x.text.size) = x.text ∧ (encB x).extract (32 + x.text.size) (32 + x.text.size + x.data.size) = x.data := by
  have w := w4_size
  have m := magic_size
  have z := zerosB_size 12
  refine ⟨?_, ?_, ?_, ?_, ?_, ?_, ?_, ?_⟩
  · rw [show encB x = ⟨#[]⟩ ++ magicB ++ (wBytes x.entry.toNat 4 ++ wBytes x.text.size 4 ++ wBytes x.data.size 4 ++ wBytes x.bss.toNat 4 ++ zerosB 12 ++ x.text ++ x.data) from by unfold encB hdB; simp only [ByteArray.append_assoc]; apply ByteArray.ext; simp]
    exact ext_app _ _ _ _ _ rfl (by rw [m]; rfl)
  · rw [show encB x = magicB ++ wBytes x.entry.toNat 4 ++ (wBytes x.text.size 4 ++ wBytes x.data.size 4 ++ wBytes x.bss.toNat 4 ++ zerosB 12 ++ x.text ++ x.data) from by unfold encB hdB; simp only [ByteArray.append_assoc]]
    exact ext_app _ _ _ _ _ (by rw [m]) (by rw [m, w])
  · rw [show encB x = (magicB ++ wBytes x.entry.toNat 4) ++ wBytes x.text.size 4 ++ (wBytes x.data.size 4 ++ wBytes x.bss.toNat 4 ++ zerosB 12 ++ x.text ++ x.data) from by unfold encB hdB; simp only [ByteArray.append_assoc]]
    exact ext_app _ _ _ _ _ (by rw [ByteArray.size_append, m, w]) (by rw [ByteArray.size_append, m, w, w])
  · rw [show encB x = (magicB ++ wBytes x.entry.toNat 4 ++ wBytes x.text.size 4) ++ wBytes x.data.size 4 ++ (wBytes x.bss.toNat 4 ++ zerosB 12 ++ x.text ++ x.data) from by unfold encB hdB; simp only [ByteArray.append_assoc]]
    exact ext_app _ _ _ _ _ (by rw [ByteArray.size_append, ByteArray.size_append, m, w, w]) (by rw [ByteArray.size_append, ByteArray.size_append, m, w, w, w])
  · rw [show encB x = (magicB ++ wBytes x.entry.toNat 4 ++ wBytes x.text.size 4 ++ wBytes x.data.size 4) ++ wBytes x.bss.toNat 4 ++ (zerosB 12 ++ x.text ++ x.data) from by unfold encB hdB; simp only [ByteArray.append_assoc]]
    exact ext_app _ _ _ _ _ (by rw [ByteArray.size_append, ByteArray.size_append, ByteArray.size_append, m, w, w, w]) (by rw [ByteArray.size_append, ByteArray.size_append, ByteArray.size_append, m, w, w, w, w])
  · rw [show encB x = (hdB x 4) ++ zerosB 12 ++ (x.text ++ x.data) from by unfold encB; simp only [ByteArray.append_assoc]]
    exact ext_app _ _ _ _ _ (hdB_size x).2.2.2.2.symm (by rw [(hdB_size x).2.2.2.2, z])
  · rw [show encB x = (hdB x 4 ++ zerosB 12) ++ x.text ++ x.data from rfl]
    exact ext_app _ _ _ _ _ (by rw [ByteArray.size_append, (hdB_size x).2.2.2.2, z]) (by rw [ByteArray.size_append, (hdB_size x).2.2.2.2, z])
  · rw [show encB x = (hdB x 4 ++ zerosB 12 ++ x.text) ++ x.data ++ ⟨#[]⟩ from by unfold encB; apply ByteArray.ext; simp]
    exact ext_app _ _ _ _ _ (by rw [ByteArray.size_append, ByteArray.size_append, (hdB_size x).2.2.2.2, z]) (by rw [ByteArray.size_append, ByteArray.size_append, (hdB_size x).2.2.2.2, z])
theorem xOf_enc {x : Prg} (h : x.may = true) : xOf (encB x) = x := by
  obtain ⟨m1, m2, m3, m4, m5, m6, m7, m8, m9, m10⟩ := may_nums h
  obtain ⟨_, q2, q3, q4, q5, _, q7, q8⟩ := enc_parts x
  have hz := encB_size x
  have e1 : posP (encB x).size 0 4 = 4 := by unfold posP; omega
  have e2 : posP (encB x).size 4 4 = 8 := by unfold posP; omega
  have e3 : posP (encB x).size 8 4 = 12 := by unfold posP; omega
  have e4 : posP (encB x).size 12 4 = 16 := by unfold posP; omega
  have e5 : posP (encB x).size 16 4 = 20 := by unfold posP; omega
  have e6 : posP (encB x).size 20 12 = 32 := by unfold posP; omega
  have e7 : posP (encB x).size 32 x.text.size = 32 + x.text.size := by unfold posP; omega
  have e8 : posP (encB x).size (32 + x.text.size) x.data.size = 32 + x.text.size + x.data.size := by unfold posP; omega
  unfold xOf
  simp only
  rw [e1, e2, e3, e4, e5, e6, q2, q3, q4, q5, wOf_w4 _ (by omega), wOf_w4 _ (by omega), wOf_w4 _ (by omega), wOf_w4 _ (by omega), e7, e8, q7, q8]
  obtain ⟨en, text, data, b⟩ := x
  simp only at m4 m8 ⊢
  rw [Int.toNat_of_nonneg m4, Int.toNat_of_nonneg m8]
theorem encB_inj {x y : Prg} (hx : x.may = true) (hy : y.may = true) (h : encB x = encB y) : x = y := by rw [← xOf_enc hx, h, xOf_enc hy]
/-- bytes are a program's file -/
def IsF (s : ByteArray) : Prop := (xOf s).may = true ∧ encB (xOf s) = s
theorem IsF.of {x : Prg} (h : x.may = true) : IsF (encB x) := by
  unfold IsF
  rw [xOf_enc h]
  exact ⟨h, rfl⟩
theorem IsF.nums {s : ByteArray} (h : IsF s) : 36 ≤ s.size ∧ wOf (s.extract 8 12) = (xOf s).text.size ∧ wOf (s.extract 12 16) = (xOf s).data.size ∧ s.size = 32 + wOf (s.extract 8 12) + wOf (s.extract 12 16) ∧ wOf (s.extract 8 12) ≤ 2048 ∧ wOf (s.extract 12 16) ≤ 1024 := by
  obtain ⟨h1, h2⟩ := h
  obtain ⟨m1, m2, m3, m4, m5, m6, m7, m8, m9, m10⟩ := may_nums h1
  obtain ⟨_, q2, q3, q4, q5, _, q7, q8⟩ := enc_parts (xOf s)
  have hz := encB_size (xOf s)
  rw [h2] at q3 q4 hz
  rw [q3, q4, wOf_w4 _ (by omega), wOf_w4 _ (by omega)]
  exact ⟨by omega, rfl, rfl, hz, m2, m7⟩
end Go.Proofs.YtijooajhjcfneaaGreat

namespace Go.Proofs.YtijooajhjcfneaaGreat
open Go.RowKit

theorem decV_yes {s : ByteArray} (h : IsF s) : decV s = .tuple #[(xOf s).val, .int .i64 0] := by unfold decV; exact if_pos h
theorem decV_no {s : ByteArray} (h : ¬ IsF s) : decV s = .tuple #[.agg #[.int .i64 0, .string ⟨#[]⟩, .string ⟨#[]⟩, .int .i64 0], .int .i64 6] := by unfold decV; exact if_neg h
/-- where the lengths fit, what the document cuts is the same -/
theorem xOf_fit {s : ByteArray} {n d : Nat} (hn : n = wOf (s.extract 8 12)) (hd : d = wOf (s.extract 12 16)) (hL : s.size = 32 + n + d) : xOf s = ⟨(wOf (s.extract 4 8) : Nat), s.extract 32 (32 + n), s.extract (32 + n) s.size, (wOf (s.extract 16 20) : Nat)⟩ := by
  have e1 : posP s.size 0 4 = 4 := by unfold posP; omega
  have e2 : posP s.size 4 4 = 8 := by unfold posP; omega
  have e3 : posP s.size 8 4 = 12 := by unfold posP; omega
  have e4 : posP s.size 12 4 = 16 := by unfold posP; omega
  have e5 : posP s.size 16 4 = 20 := by unfold posP; omega
  have e6 : posP s.size 20 12 = 32 := by unfold posP; omega
  have e7 : posP s.size 32 n = 32 + n := by unfold posP; omega
  have e8 : posP s.size (32 + n) d = s.size := by unfold posP; omega
  unfold xOf
  simp only
  rw [e1, e2, e3, e4, e5, e6, ← hn, ← hd, e7, e8]
/-- the result's place beside what changes nothing else -/
theorem res_fin {w0 W : World} (hb : Blk W w0.heap.size #[.int .i64 0, .string ⟨#[]⟩, .string ⟨#[]⟩, .int .i64 0] 23) (hc : Chg (fun _ => False) w0 W) (a b c d : Value) : Blk ((((W.setCell ⟨w0.heap.size, 0, none⟩ a).setCell ⟨w0.heap.size, 1, none⟩ b).setCell ⟨w0.heap.size, 2, none⟩ c).setCell ⟨w0.heap.size, 3, none⟩ d) w0.heap.size #[a, b, c, d] 23 ∧ Chg (fun _ => False) w0 ((((W.setCell ⟨w0.heap.size, 0, none⟩ a).setCell ⟨w0.heap.size, 1, none⟩ b).setCell ⟨w0.heap.size, 2, none⟩ c).setCell ⟨w0.heap.size, 3, none⟩ d) := by
  have k := (((hb.set 0 a).set 1 b).set 2 c).set 3 d
  exact ⟨by simpa using k, (((hc.setCell _ _ (.inr (Nat.le_refl _))).setCell _ _ (.inr (Nat.le_refl _))).setCell _ _ (.inr (Nat.le_refl _))).setCell _ _ (.inr (Nat.le_refl _))⟩
/-- the result's place and the program that came to be -/
structure DeQ (w0 : World) (xb : Nat) (x : Array Value) (W : World) : Prop where
  bh : Blk W w0.heap.size #[.int .i64 0, .string ⟨#[]⟩, .string ⟨#[]⟩, .int .i64 0] 23
  bx : Blk W xb x 23
  chg : Chg (fun _ => False) w0 W
theorem DeQ.made (w0 : World) (x : Array Value) : DeQ w0 (w0.heap.size + 1) x (((w0.alloc (.cells #[.int .i64 0, .string ⟨#[]⟩, .string ⟨#[]⟩, .int .i64 0] 23)).alloc (.cells x 23)).drew) := by
  have h := Blk.new (w0.alloc (.cells #[.int .i64 0, .string ⟨#[]⟩, .string ⟨#[]⟩, .int .i64 0] 23)) x 23
  have z1 : (w0.alloc (.cells #[.int .i64 0, .string ⟨#[]⟩, .string ⟨#[]⟩, .int .i64 0] 23)).heap.size = w0.heap.size + 1 := by simp
  rw [z1] at h
  exact ⟨((Blk.new w0 _ _).alloc _).drew, h.drew, (((Chg.refl _ w0).alloc _).alloc _).drew⟩
theorem DeQ.nothing {w0 W W' : World} {xb : Nat} {x : Array Value} (h : DeQ w0 xb x W) (c : Chg (fun _ => False) W W') : DeQ w0 xb x W' := ⟨c.blk h.bh (fun a => a), c.blk h.bx (fun a => a), h.chg.trans c⟩
end Go.Proofs.YtijooajhjcfneaaGreat
