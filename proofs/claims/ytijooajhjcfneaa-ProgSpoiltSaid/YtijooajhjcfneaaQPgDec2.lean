/-
  A program's file, read.
-/
import Derived.Test.YtijooajhjcfneaaQPgDec
import Derived.Laws.ResultCell
namespace Go.Proofs.Ytijooajhjcfneaa
open Go.RowKit

theorem tl_loop (s : ByteArray) : ∀ k i r, s.size - i = k → ByteArray.toList.loop s i r = r.reverse ++ s.data.toList.drop i := by
  intro k
  induction k with
  | zero =>
    intro i r h
    rw [ByteArray.toList.loop, if_neg (by omega), List.drop_eq_nil_of_le (by show s.data.toList.length ≤ i; rw [Array.length_toList]; show s.size ≤ i; omega), List.append_nil]
  | succ k ih =>
    intro i r h
    have hi : i < s.size := by omega
    rw [ByteArray.toList.loop, if_pos hi, ih (i + 1) _ (by omega)]
    have hl : i < s.data.toList.length := by rw [Array.length_toList]; exact hi
    rw [List.drop_eq_getElem_cons hl, List.reverse_cons, List.append_assoc]
    congr 2
    show [s.get! i] ++ _ = _
    have e : s.get! i = s.data.toList[i] := by
      rw [Array.getElem_toList]
      show s.data[i]! = _
      rw [getElem!_pos s.data i hi]
    rw [e]
    rfl
theorem tl_data (s : ByteArray) : s.toList = s.data.toList := by
  show ByteArray.toList.loop s 0 [] = _
  rw [tl_loop s (s.size) 0 [] rfl]
  rfl
theorem tl_ne {a b : ByteArray} (h : a ≠ b) : (a.toList == b.toList) = false := by
  rw [tl_data, tl_data]
  apply beq_false_of_ne
  intro e
  apply h
  apply ByteArray.ext
  exact Array.toList_inj.1 e
/-- what a file says, were it one -/
def posP (L p n : Nat) : Nat := min (p + n) L
def xOf (s : ByteArray) : Prg :=
  let L := s.size
  let p1 := posP L 0 4
  let p2 := posP L p1 4
  let p3 := posP L p2 4
  let p4 := posP L p3 4
  let p5 := posP L p4 4
  let p6 := posP L p5 12
  let n := wOf (s.extract p2 p3)
  let d := wOf (s.extract p3 p4)
  let p7 := posP L p6 n
  let p8 := posP L p7 d
  ⟨(wOf (s.extract p1 p2) : Nat), s.extract p6 p7, s.extract p7 p8, (wOf (s.extract p4 p5) : Nat)⟩
theorem cut_pos (s : ByteArray) (p n : Nat) (hp : p ≤ s.size) : (s.extract p s.size).extract 0 (min n (s.extract p s.size).size) = s.extract p (posP s.size p n) ∧ (s.extract p s.size).extract (min n (s.extract p s.size).size) (s.extract p s.size).size = s.extract (posP s.size p n) s.size ∧ posP s.size p n ≤ s.size := by
  have hz : (s.extract p s.size).size = s.size - p := by rw [ByteArray.size_extract]; omega
  rw [hz]
  unfold posP
  refine ⟨?_, ?_, by omega⟩
  · rw [ByteArray.extract_extract]
    congr 1
    omega
  · rw [ByteArray.extract_extract]
    congr 1
    · omega
    · omega
theorem ext_all (s : ByteArray) : s.extract 0 s.size = s := by
  apply ByteArray.ext
  simp
/-- the result's place, the rest, the function that cuts -/
structure DeA (w0 : World) (T : TypeId) (r : ByteArray) (W : World) : Prop where
  bh : Blk W w0.heap.size #[.int .i64 0, .string ⟨#[]⟩, .string ⟨#[]⟩, .int .i64 0] 23
  bc : Blk W (w0.heap.size + 1) #[.string r] 9
  bf : Blk W (w0.heap.size + 2) #[cutF (w0.heap.size + 1)] T
  chg : Chg (fun _ => False) w0 W
  sz : w0.heap.size + 3 ≤ W.heap.size
theorem DeA.start (w0 : World) (T : TypeId) (s : ByteArray) : DeA w0 T s (((w0.alloc (.cells #[.int .i64 0, .string ⟨#[]⟩, .string ⟨#[]⟩, .int .i64 0] 23)).alloc (.cells #[.string s] 9)).alloc (.cells #[cutF (w0.heap.size + 1)] T)) := by
  have z1 : (w0.alloc (.cells #[.int .i64 0, .string ⟨#[]⟩, .string ⟨#[]⟩, .int .i64 0] 23)).heap.size = w0.heap.size + 1 := by simp
  refine ⟨((Blk.new w0 _ _).alloc _).alloc _, ?_, ?_, (((Chg.refl _ w0).alloc _).alloc _).alloc _, by simp⟩
  · have h := Blk.new (w0.alloc (.cells #[.int .i64 0, .string ⟨#[]⟩, .string ⟨#[]⟩, .int .i64 0] 23)) #[.string s] 9
    rw [z1] at h
    exact h.alloc _
  · have h := Blk.new ((w0.alloc (.cells #[.int .i64 0, .string ⟨#[]⟩, .string ⟨#[]⟩, .int .i64 0] 23)).alloc (.cells #[.string s] 9)) #[cutF (w0.heap.size + 1)] T
    have z2 : ((w0.alloc (.cells #[.int .i64 0, .string ⟨#[]⟩, .string ⟨#[]⟩, .int .i64 0] 23)).alloc (.cells #[.string s] 9)).heap.size = w0.heap.size + 2 := by simp
    rw [z2] at h
    exact h
theorem DeA.cut {w0 W W' : World} {T : TypeId} {r r' : ByteArray} (h : DeA w0 T r W) (b : Blk W' (w0.heap.size + 1) #[.string r'] 9) (c : Chg (fun k => k = w0.heap.size + 1) W W') : DeA w0 T r' W' :=
  ⟨c.blk h.bh (by omega), b, c.blk h.bf (by omega), h.chg.trans' c (fun i hi => .inr (by omega)), Nat.le_trans h.sz c.size⟩
theorem DeA.nothing {w0 W W' : World} {T : TypeId} {r : ByteArray} (h : DeA w0 T r W) (c : Chg (fun _ => False) W W') : DeA w0 T r W' :=
  ⟨c.blk h.bh (fun a => a), c.blk h.bc (fun a => a), c.blk h.bf (fun a => a), h.chg.trans c, Nat.le_trans h.sz c.size⟩
/-- .. and the program that comes to be -/
structure DeB (w0 : World) (T : TypeId) (xb : Nat) (x : Array Value) (r : ByteArray) (W : World) : Prop where
  a : DeA w0 T r W
  bx : Blk W xb x 23
  le : w0.heap.size + 3 ≤ xb
theorem DeB.new {w0 W : World} {T : TypeId} {r : ByteArray} (h : DeA w0 T r W) (x : Array Value) : DeB w0 T W.heap.size x r (W.alloc (.cells x 23)) :=
  ⟨h.nothing ((Chg.refl _ W).alloc _), Blk.new W _ _, h.sz⟩
theorem DeB.cut {w0 W W' : World} {T : TypeId} {xb : Nat} {x : Array Value} {r r' : ByteArray} (h : DeB w0 T xb x r W) (b : Blk W' (w0.heap.size + 1) #[.string r'] 9) (c : Chg (fun k => k = w0.heap.size + 1) W W') : DeB w0 T xb x r' W' :=
  ⟨h.a.cut b c, c.blk h.bx (by have := h.le; omega), h.le⟩
theorem DeB.nothing {w0 W W' : World} {T : TypeId} {xb : Nat} {x : Array Value} {r : ByteArray} (h : DeB w0 T xb x r W) (c : Chg (fun _ => False) W W') : DeB w0 T xb x r W' :=
  ⟨h.a.nothing c, c.blk h.bx (fun a => a), h.le⟩
theorem DeB.set {w0 W : World} {T : TypeId} {xb : Nat} {x : Array Value} {r : ByteArray} (h : DeB w0 T xb x r W) (i : Nat) (v : Value) : DeB w0 T xb (x.setIfInBounds i v) r (W.setCell ⟨xb, i, none⟩ v) := by
  have c : Chg (fun k => k = xb) W (W.setCell ⟨xb, i, none⟩ v) := (Chg.refl _ W).setCell _ _ (.inl rfl)
  have := h.le
  exact ⟨⟨c.blk h.a.bh (by omega), c.blk h.a.bc (by omega), c.blk h.a.bf (by omega), h.a.chg.trans' c (fun i hi => .inr (by omega)), Nat.le_trans h.a.sz c.size⟩, h.bx.set i v, h.le⟩
theorem de_cutA {w0 W : World} {T : TypeId} {s : ByteArray} {p : Nat} (h : DeA w0 T (s.extract p s.size) W) (hp : p ≤ s.size) (n : Nat) (hs : s.size ≤ 9223372036854775807) :
    Calls Try.prog 25 #[.int .i64 n, .pointer (some ⟨w0.heap.size + 1, 0, none⟩)] W fun e w' => e = .returned (.string (s.extract p (posP s.size p n))) ∧ DeA w0 T (s.extract (posP s.size p n) s.size) w' := by
  obtain ⟨e1, e2, _⟩ := cut_pos s p n hp
  refine (p_cut W _ _ h.bc n (by rw [ByteArray.size_extract]; omega)).mono ?_
  rintro e w' ⟨rfl, b, c⟩
  rw [e1]
  rw [e2] at b
  exact ⟨rfl, h.cut b c⟩
theorem de_numA {w0 W : World} {T : TypeId} {s : ByteArray} {p : Nat} (h : DeA w0 T (s.extract p s.size) W) (hp : p ≤ s.size) (hs : s.size ≤ 9223372036854775807) :
    Calls Try.prog 26 #[.pointer (some ⟨w0.heap.size + 2, 0, none⟩)] W fun e w' => e = .returned (.int .i64 (wOf (s.extract p (posP s.size p 4)) : Nat)) ∧ DeA w0 T (s.extract (posP s.size p 4) s.size) w' := by
  obtain ⟨e1, e2, _⟩ := cut_pos s p 4 hp
  refine (p_number W _ _ _ h.bc T h.bf (by rw [ByteArray.size_extract]; omega)).mono ?_
  rintro e w' ⟨rfl, b, c⟩
  rw [e1]
  rw [e2] at b
  exact ⟨rfl, h.cut b c⟩
theorem de_cutB {w0 W : World} {T : TypeId} {xb : Nat} {x : Array Value} {s : ByteArray} {p : Nat} (h : DeB w0 T xb x (s.extract p s.size) W) (hp : p ≤ s.size) (n : Nat) (hs : s.size ≤ 9223372036854775807) :
    Calls Try.prog 25 #[.int .i64 n, .pointer (some ⟨w0.heap.size + 1, 0, none⟩)] W fun e w' => e = .returned (.string (s.extract p (posP s.size p n))) ∧ DeB w0 T xb x (s.extract (posP s.size p n) s.size) w' := by
  obtain ⟨e1, e2, _⟩ := cut_pos s p n hp
  refine (p_cut W _ _ h.a.bc n (by rw [ByteArray.size_extract]; omega)).mono ?_
  rintro e w' ⟨rfl, b, c⟩
  rw [e1]
  rw [e2] at b
  exact ⟨rfl, h.cut b c⟩
theorem de_numB {w0 W : World} {T : TypeId} {xb : Nat} {x : Array Value} {s : ByteArray} {p : Nat} (h : DeB w0 T xb x (s.extract p s.size) W) (hp : p ≤ s.size) (hs : s.size ≤ 9223372036854775807) :
    Calls Try.prog 26 #[.pointer (some ⟨w0.heap.size + 2, 0, none⟩)] W fun e w' => e = .returned (.int .i64 (wOf (s.extract p (posP s.size p 4)) : Nat)) ∧ DeB w0 T xb x (s.extract (posP s.size p 4) s.size) w' := by
  obtain ⟨e1, e2, _⟩ := cut_pos s p 4 hp
  refine (p_number W _ _ _ h.a.bc T h.a.bf (by rw [ByteArray.size_extract]; omega)).mono ?_
  rintro e w' ⟨rfl, b, c⟩
  rw [e1]
  rw [e2] at b
  exact ⟨rfl, h.cut b c⟩
/-- the result is laid down -/
theorem DeA.fin {w0 W : World} {T : TypeId} {r : ByteArray} (h : DeA w0 T r W) (a b c d : Value) : Blk ((((W.setCell ⟨w0.heap.size, 0, none⟩ a).setCell ⟨w0.heap.size, 1, none⟩ b).setCell ⟨w0.heap.size, 2, none⟩ c).setCell ⟨w0.heap.size, 3, none⟩ d) w0.heap.size #[a, b, c, d] 23 ∧ Chg (fun _ => False) w0 ((((W.setCell ⟨w0.heap.size, 0, none⟩ a).setCell ⟨w0.heap.size, 1, none⟩ b).setCell ⟨w0.heap.size, 2, none⟩ c).setCell ⟨w0.heap.size, 3, none⟩ d) := by
  have k := (((h.bh.set 0 a).set 1 b).set 2 c).set 3 d
  exact ⟨by simpa using k, (((h.chg.setCell _ _ (.inr (Nat.le_refl _))).setCell _ _ (.inr (Nat.le_refl _))).setCell _ _ (.inr (Nat.le_refl _))).setCell _ _ (.inr (Nat.le_refl _))⟩
def decV (s : ByteArray) : Value := if (xOf s).may = true ∧ encB (xOf s) = s then .tuple #[(xOf s).val, .int .i64 0] else .tuple #[.agg #[.int .i64 0, .string ⟨#[]⟩, .string ⟨#[]⟩, .int .i64 0], .int .i64 6]
theorem posP_le (L p n : Nat) : posP L p n ≤ L := by unfold posP; omega
set_option maxRecDepth 100000 in
set_option maxHeartbeats 1600000 in
theorem p_decode (w : World) (s : ByteArray) (hs : s.size ≤ 9223372036854775807) :
    Calls Try.prog 11 #[.string s] w fun e w' => e = .returned (decV s) ∧ Chg (fun _ => False) w w' := by
  have ST := Lib.hid (fun T => DeA.start w T s)
  have HS := Lib.hid hs
  obtain ⟨L, hL⟩ : ∃ L, L = s.size := ⟨_, rfl⟩
  obtain ⟨p1, h1⟩ : ∃ p, p = posP s.size 0 4 := ⟨_, rfl⟩
  obtain ⟨p2, h2⟩ : ∃ p, p = posP s.size p1 4 := ⟨_, rfl⟩
  obtain ⟨p3, h3⟩ : ∃ p, p = posP s.size p2 4 := ⟨_, rfl⟩
  obtain ⟨p4, h4⟩ : ∃ p, p = posP s.size p3 4 := ⟨_, rfl⟩
  obtain ⟨p5, h5⟩ : ∃ p, p = posP s.size p4 4 := ⟨_, rfl⟩
  obtain ⟨p6, h6⟩ : ∃ p, p = posP s.size p5 12 := ⟨_, rfl⟩
  obtain ⟨en, hen⟩ : ∃ n, n = wOf (s.extract p1 p2) := ⟨_, rfl⟩
  obtain ⟨n, hn⟩ : ∃ n, n = wOf (s.extract p2 p3) := ⟨_, rfl⟩
  obtain ⟨d, hd⟩ : ∃ n, n = wOf (s.extract p3 p4) := ⟨_, rfl⟩
  obtain ⟨b, hb⟩ : ∃ n, n = wOf (s.extract p4 p5) := ⟨_, rfl⟩
  obtain ⟨p7, h7⟩ : ∃ p, p = posP s.size p6 n := ⟨_, rfl⟩
  obtain ⟨p8, h8⟩ : ∃ p, p = posP s.size p7 d := ⟨_, rfl⟩
  have hX : xOf s = ⟨(en : Nat), s.extract p6 p7, s.extract p7 p8, (b : Nat)⟩ := by
    unfold xOf
    simp only
    rw [← h1, ← h2, ← h3, ← h4, ← h5, ← h6, ← hn, ← hd, ← h7, ← h8, ← hen, ← hb]
  have K1 := fun W T (H : DeA w T (s.extract 0 s.size) W) => de_cutA H (Nat.zero_le _) 4 hs
  rw [← h1, show ((4 : Nat) : Int) = 4 from rfl] at K1
  have K2 := fun W T (H : DeA w T (s.extract p1 s.size) W) => de_numA H (h1 ▸ posP_le _ _ _) hs
  rw [← h2, ← hen] at K2
  have K3 := fun W T xb x (H : DeB w T xb x (s.extract p2 s.size) W) => de_numB H (h2 ▸ posP_le _ _ _) hs
  rw [← h3, ← hn] at K3
  have K4 := fun W T xb x (H : DeB w T xb x (s.extract p3 s.size) W) => de_numB H (h3 ▸ posP_le _ _ _) hs
  rw [← h4, ← hd] at K4
  have K5 := fun W T xb x (H : DeB w T xb x (s.extract p4 s.size) W) => de_numB H (h4 ▸ posP_le _ _ _) hs
  rw [← h5, ← hb] at K5
  have K6 := fun W T xb x (H : DeB w T xb x (s.extract p5 s.size) W) => de_cutB H (h5 ▸ posP_le _ _ _) 12 hs
  rw [← h6, show ((12 : Nat) : Int) = 12 from rfl] at K6
  have K7 := fun W T xb x (H : DeB w T xb x (s.extract p6 s.size) W) => de_cutB H (h6 ▸ posP_le _ _ _) n hs
  rw [← h7] at K7
  have K8 := fun W T xb x (H : DeB w T xb x (s.extract p7 s.size) W) => de_cutB H (h7 ▸ posP_le _ _ _) d hs
  rw [← h8] at K8
  have SM : (xOf s).Small := by
    rw [hX]
    exact ⟨by show (s.extract p6 p7).size ≤ _; rw [ByteArray.size_extract]; omega, by show (s.extract p7 p8).size ≤ _; rw [ByteArray.size_extract]; omega⟩
  have K9 := fun W => p_encode W (xOf s) SM
  rw [ext_all] at K1
  unfold decV
  rw [hX] at K9 ⊢
  generalize s.extract p6 p7 = text at *
  generalize s.extract p7 p8 = data at *
  generalize s.extract 0 p1 = g1 at *
  generalize s.extract p5 p6 = g2 at *
  have K1 := Lib.hid K1; have K2 := Lib.hid K2; have K3 := Lib.hid K3; have K4 := Lib.hid K4; have K5 := Lib.hid K5; have K6 := Lib.hid K6; have K7 := Lib.hid K7; have K8 := Lib.hid K8; have K9 := Lib.hid K9
  clear h1 h2 h3 h4 h5 h6 h7 h8 hen hn hd hb hX SM hs hL
  generalize hXX : (⟨(en : Nat), text, data, (b : Nat)⟩ : Prg) = X at *
  have hXV : X.val = .agg #[.int .i64 (en : Nat), .string text, .string data, .int .i64 (b : Nat)] := by rw [← hXX]; rfl
  rw [hXV]
  generalize hDV : (if X.may = true ∧ encB X = s then Value.tuple #[.agg #[.int .i64 (en : Nat), .string text, .string data, .int .i64 (b : Nat)], .int .i64 0] else .tuple #[.agg #[.int .i64 0, .string ⟨#[]⟩, .string ⟨#[]⟩, .int .i64 0], .int .i64 6]) = DV
  have HDV := Lib.hid hDV
  clear hDV hXV
  go_enter Try.func11, Try.ntmps11
  go_wp2_with fail
  refine (K1.out _ _ (ST.out _)).mono ?_
  rintro e w1 ⟨rfl, m1⟩
  have M1 := Lib.hid m1
  have cf := m1.bf.cellv 0 _ rfl
  unfold cutF at cf
  rw [show w.heap.size + 2 = w.heap.size + 1 + 1 from rfl] at cf
  clear m1
  go_wp2_with fail
  refine (K2.out _ _ M1.out).mono ?_
  rintro e w2 ⟨rfl, m2⟩
  have M2 := Lib.hid (DeB.new m2 #[.int .i64 (en : Nat), .string ⟨#[]⟩, .string ⟨#[]⟩, .int .i64 0])
  clear m2
  go_wp2_with fail
  refine (K3.out _ _ _ _ M2.out).mono ?_
  rintro e w3 ⟨rfl, m3⟩
  have M3 := Lib.hid m3; clear m3
  go_wp2_with fail
  refine (K4.out _ _ _ _ M3.out).mono ?_
  rintro e w4 ⟨rfl, m4⟩
  have M4 := Lib.hid m4; clear m4
  go_wp2_with fail
  refine (K5.out _ _ _ _ M4.out).mono ?_
  rintro e w5 ⟨rfl, m5⟩
  have fx := m5.bx.free 3
  have M5 := Lib.hid (m5.set 3 (.int .i64 (b : Nat)))
  have cx3 := m5.bx.cellv 3 _ rfl
  clear m5
  have cf5 := M5.out.a.bf.cellv 0 _ rfl
  unfold cutF at cf5
  rw [show w.heap.size + 2 = w.heap.size + 1 + 1 from rfl] at cf5
  go_wp2_with fail
  refine (K6.out _ _ _ _ M5.out).mono ?_
  rintro e w6 ⟨rfl, m6⟩
  have M6 := Lib.hid m6
  have cf6 := m6.a.bf.cellv 0 _ rfl
  unfold cutF at cf6
  rw [show w.heap.size + 2 = w.heap.size + 1 + 1 from rfl] at cf6
  clear m6 cf cf5
  go_wp2_with fail
  refine (K7.out _ _ _ _ M6.out).mono ?_
  rintro e w7 ⟨rfl, m7⟩
  have f7 := m7.bx.free 1
  have c7 := m7.bx.cellv 1 _ rfl
  have M7 := Lib.hid (m7.set 1 (.string text))
  have cf7 := M7.out.a.bf.cellv 0 _ rfl
  unfold cutF at cf7
  rw [show w.heap.size + 2 = w.heap.size + 1 + 1 from rfl] at cf7
  clear m7
  go_wp2_with fail
  refine (K8.out _ _ _ _ M7.out).mono ?_
  rintro e w8 ⟨rfl, m8⟩
  have f8 := m8.bx.free 2
  have c8 := m8.bx.cellv 2 _ rfl
  have M8 := Lib.hid (m8.set 2 (.string data))
  have e8 : ((((#[.int .i64 (en : Nat), .string ⟨#[]⟩, .string ⟨#[]⟩, .int .i64 0] : Array Value).setIfInBounds 3 (.int .i64 (b : Nat))).setIfInBounds 1 (.string text)).setIfInBounds 2 (.string data)) = #[.int .i64 (en : Nat), .string text, .string data, .int .i64 (b : Nat)] := rfl
  rw [e8] at M8
  have x0 := M8.out.bx.cellv 0 _ rfl
  have x1 := M8.out.bx.cellv 1 _ rfl
  have x2 := M8.out.bx.cellv 2 _ rfl
  have x3 := M8.out.bx.cellv 3 _ rfl
  clear m8 e8
  have K9b := K9.out (w8.setCell ⟨w2.heap.size, 2, none⟩ (.string data))
  rw [← hXX] at K9b
  unfold Prg.val at K9b
  simp only at K9b
  rw [hXX] at K9b
  have K9b := Lib.hid K9b
  go_wp2_with fail
  refine K9b.out.mono ?_
  rintro e w9 ⟨rfl, c9⟩
  have M9 := Lib.hid (M8.out.nothing c9)
  have x0 := M9.out.bx.cellv 0 _ rfl
  have x1 := M9.out.bx.cellv 1 _ rfl
  have x2 := M9.out.bx.cellv 2 _ rfl
  have x3 := M9.out.bx.cellv 3 _ rfl
  have y0 := M9.out.a.bh.free 0
  have y1 := M9.out.a.bh.free 1
  have y2 := M9.out.a.bh.free 2
  have y3 := M9.out.a.bh.free 3
  have q0 := M9.out.a.bh.cellv 0 _ rfl
  have q1 := M9.out.a.bh.cellv 1 _ rfl
  have q2 := M9.out.a.bh.cellv 2 _ rfl
  have q3 := M9.out.a.bh.cellv 3 _ rfl
  have FIN := Lib.hid M9.out.a.chg
  clear c9 K9b
  cases hm : X.may with
  | false =>
    have e1 : encV X = .tuple #[.string ⟨#[]⟩, .int .i64 6] := by unfold encV; rw [hm]; rfl
    have e2 := HDV.out
    rw [if_neg (by rw [hm]; rintro ⟨h, _⟩; cases h)] at e2
    have E2 := Lib.hid e2
    clear e2
    rw [e1]
    go_wp2_with fail
    have FB := M9.out.a.fin (.int .i64 0) (.string ⟨#[]⟩) (.string ⟨#[]⟩) (.int .i64 0)
    generalize ((((w9.setCell ⟨w.heap.size, 0, none⟩ (.int .i64 0)).setCell ⟨w.heap.size, 1, none⟩ (.string ⟨#[]⟩)).setCell ⟨w.heap.size, 2, none⟩ (.string ⟨#[]⟩)).setCell ⟨w.heap.size, 3, none⟩ (.int .i64 0)) = WE at *
    have r0 := FB.1.cellv 0 _ rfl
    have r1 := FB.1.cellv 1 _ rfl
    have r2 := FB.1.cellv 2 _ rfl
    have r3 := FB.1.cellv 3 _ rfl
    (try simp only [Exit.inBlock, Exit.then])
    refine bodyPost_ret (v := .tuple #[.agg #[.int .i64 0, .string ⟨#[]⟩, .string ⟨#[]⟩, .int .i64 0], .int .i64 6]) ?_ rfl ⟨congrArg Ending.returned E2.out, FB.2⟩
    rw [results_cell_tmp rfl]
    go_simp
  | true =>
    have e1 : encV X = .tuple #[.string (encB X), .int .i64 0] := by unfold encV; rw [if_pos hm]
    rw [e1]
    by_cases hq : encB X = s
    · have z1 : ((encB X).toList == s.toList) = true := by rw [hq]; simp
      have e2 := HDV.out
      rw [if_pos ⟨hm, hq⟩] at e2
      have E2 := Lib.hid e2
      clear e2 HDV hq
      generalize encB X = eb at *
      go_wp2_with fail
      have FB := M9.out.a.fin (.int .i64 (en : Nat)) (.string text) (.string data) (.int .i64 (b : Nat))
      generalize ((((w9.setCell ⟨w.heap.size, 0, none⟩ (.int .i64 (en : Nat))).setCell ⟨w.heap.size, 1, none⟩ (.string text)).setCell ⟨w.heap.size, 2, none⟩ (.string data)).setCell ⟨w.heap.size, 3, none⟩ (.int .i64 (b : Nat))) = WE at *
      have r0 := FB.1.cellv 0 _ rfl
      have r1 := FB.1.cellv 1 _ rfl
      have r2 := FB.1.cellv 2 _ rfl
      have r3 := FB.1.cellv 3 _ rfl
      (try simp only [Exit.inBlock, Exit.then])
      refine bodyPost_ret (v := .tuple #[.agg #[.int .i64 (en : Nat), .string text, .string data, .int .i64 (b : Nat)], .int .i64 0]) ?_ rfl ⟨congrArg Ending.returned E2.out, FB.2⟩
      rw [results_cell_tmp rfl]
      go_simp
    · have z1 := tl_ne hq
      have e2 := HDV.out
      rw [if_neg (fun h => hq h.2)] at e2
      have E2 := Lib.hid e2
      clear e2 HDV hq
      generalize encB X = eb at *
      go_wp2_with fail
      have FB := M9.out.a.fin (.int .i64 0) (.string ⟨#[]⟩) (.string ⟨#[]⟩) (.int .i64 0)
      generalize ((((w9.setCell ⟨w.heap.size, 0, none⟩ (.int .i64 0)).setCell ⟨w.heap.size, 1, none⟩ (.string ⟨#[]⟩)).setCell ⟨w.heap.size, 2, none⟩ (.string ⟨#[]⟩)).setCell ⟨w.heap.size, 3, none⟩ (.int .i64 0)) = WE at *
      have r0 := FB.1.cellv 0 _ rfl
      have r1 := FB.1.cellv 1 _ rfl
      have r2 := FB.1.cellv 2 _ rfl
      have r3 := FB.1.cellv 3 _ rfl
      (try simp only [Exit.inBlock, Exit.then])
      refine bodyPost_ret (v := .tuple #[.agg #[.int .i64 0, .string ⟨#[]⟩, .string ⟨#[]⟩, .int .i64 0], .int .i64 6]) ?_ rfl ⟨congrArg Ending.returned E2.out, FB.2⟩
      rw [results_cell_tmp rfl]
      go_simp
end Go.Proofs.Ytijooajhjcfneaa
