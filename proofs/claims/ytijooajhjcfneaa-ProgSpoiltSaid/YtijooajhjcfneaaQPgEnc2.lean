/-
  A program's file, as the program writes it.
-/
import Derived.Test.YtijooajhjcfneaaQPgEnc
namespace Go.Proofs.Ytijooajhjcfneaa
open Go.RowKit

def magicB : ByteArray := ⟨#[66, 75, 80, 1]⟩
/-- the head of a file: so many of its words -/
def hdB (x : Prg) : Nat → ByteArray
  | 0 => magicB
  | 1 => magicB ++ wBytes x.entry.toNat 4
  | 2 => magicB ++ wBytes x.entry.toNat 4 ++ wBytes x.text.size 4
  | 3 => magicB ++ wBytes x.entry.toNat 4 ++ wBytes x.text.size 4 ++ wBytes x.data.size 4
  | _ => magicB ++ wBytes x.entry.toNat 4 ++ wBytes x.text.size 4 ++ wBytes x.data.size 4 ++ wBytes x.bss.toNat 4
/-- a program's file -/
def encB (x : Prg) : ByteArray := hdB x 4 ++ zerosB 12 ++ x.text ++ x.data
theorem w4_size (v : Nat) : (wBytes v 4).size = 4 := by rw [wBytes_size]; rfl
theorem magic_size : magicB.size = 4 := by decide
theorem hdB_size (x : Prg) : (hdB x 0).size = 4 ∧ (hdB x 1).size = 8 ∧ (hdB x 2).size = 12 ∧ (hdB x 3).size = 16 ∧ (hdB x 4).size = 20 := by
  unfold hdB
  simp only [ByteArray.size_append, w4_size, magic_size]
  exact ⟨trivial, trivial, trivial, trivial, trivial⟩
theorem zerosB_size (n : Nat) : (zerosB n).size = n := by rw [Lib.size_eq]; show (List.replicate n (0 : UInt8)).toArray.toList.length = n; simp
theorem encB_size (x : Prg) : (encB x).size = 32 + x.text.size + x.data.size := by
  unfold encB
  rw [ByteArray.size_append, ByteArray.size_append, ByteArray.size_append, zerosB_size, (hdB_size x).2.2.2.2]
def encV (x : Prg) : Value := if x.may = true then .tuple #[.string (encB x), .int .i64 0] else .tuple #[.string ⟨#[]⟩, .int .i64 6]
theorem hd_step (x : Prg) : hdB x 0 ++ wBytes x.entry.toNat 4 = hdB x 1 ∧ hdB x 1 ++ wBytes x.text.size 4 = hdB x 2 ∧ hdB x 2 ++ wBytes x.data.size 4 = hdB x 3 ∧ hdB x 3 ++ wBytes x.bss.toNat 4 = hdB x 4 := ⟨rfl, rfl, rfl, rfl⟩
theorem idx4 (W : World) (cs : Array Value) (k : Nat) (hk : k < 4) (v : Value) (hv : cs[k]? = some v) : (Instr.index 57 (.agg cs) (.int .i64 (k : Nat))).run Try.prog W = .ok v W := by
  have hb : (k : Int) < 4 := by omega
  simp [Instr.index, run_underlying Try.underlying57, asIntOf, hb, part, hv, go_sem]
  intro h; omega
theorem add_fit (W : World) (a b : ByteArray) (h : a.size + b.size ≤ 100000) : (Op.stringOp .add a b).run Try.prog W = .ok (.string (a ++ b)) W := run_string_add_sum W _ _ (by omega)
set_option maxRecDepth 100000 in
set_option maxHeartbeats 1600000 in
theorem p_encode (w : World) (x : Prg) (h : x.Small) :
    Calls Try.prog 9 #[x.val] w fun r w' => r = .returned (encV x) ∧ Chg (fun _ => False) w w' := by
  have KM := fun W => p_may W x h
  cases hm : x.may with
  | false =>
    rw [hm] at KM
    have KM := Lib.hid KM
    have e : encV x = .tuple #[.string ⟨#[]⟩, .int .i64 6] := by unfold encV; rw [hm]; rfl
    rw [e]
    have C0 := Lib.hid ((Chg.refl (fun _ => False) w).alloc (.cells #[.int .i64 x.entry, .string x.text, .string x.data, .int .i64 x.bss] 23))
    unfold Prg.val at *
    go_enter Try.func9, Try.ntmps9
    go_wp2_with fail
    refine (KM.out _).mono ?_
    rintro e w1 ⟨rfl, c1⟩
    have C1 := Lib.hid (C0.out.trans c1); clear c1
    go_wp2_with fail
    go_ret2
    exact ⟨rfl, C1.out⟩
  | true =>
    rw [hm] at KM
    have KM := Lib.hid KM
    have e : encV x = .tuple #[.string (encB x), .int .i64 0] := by unfold encV; rw [if_pos hm]
    rw [e]
    obtain ⟨m1, m2, m3, m4, m5, m6, m7, m8, m9, m10⟩ := may_nums hm
    have FIN := Lib.hid (show hdB x 4 ++ zerosB 12 ++ x.text ++ x.data = encB x from rfl)
    obtain ⟨s0, s1, s2, s3, s4⟩ := hdB_size x
    obtain ⟨a1, a2, a3, a4⟩ := hd_step x
    have hz0 : hdB x 0 = ⟨#[66, 75, 80, 1]⟩ := rfl
    generalize encB x = EB at *
    obtain ⟨en, text, data, bs⟩ := x
    simp only at m1 m2 m3 m4 m5 m6 m7 m8 m9 m10 a1 a2 a3 a4
    obtain ⟨b, rfl⟩ := Int.eq_ofNat_of_zero_le m8
    obtain ⟨en, rfl⟩ := Int.eq_ofNat_of_zero_le m4
    simp only [Int.toNat_natCast] at a1 a2 a3 a4
    have C0 := Lib.hid ((Chg.refl (fun _ => False) w).alloc (.cells #[.int .i64 (en : Int), .string text, .string data, .int .i64 (b : Int)] 23))
    have HB := Lib.hid (Blk.new w #[.int .i64 (en : Int), .string text, .string data, .int .i64 (b : Int)] 23)
    generalize hdB ⟨(en : Int), text, data, (b : Int)⟩ = H at *
    unfold Prg.val at *
    simp only at KM FIN
    obtain ⟨n, hn⟩ : ∃ n, n = text.size := ⟨_, rfl⟩
    obtain ⟨d, hd⟩ : ∃ d, d = data.size := ⟨_, rfl⟩
    rw [← hn] at m1 m2 m3 m5 m10 a2; rw [← hd] at m7 m10 a3
    have KB := Lib.hid (fun W (v : Nat) (hv : v < 18446744073709551616) => word_bytes W v hv 4)
    have v1 : IntKind.u64.wrap (en : Int) = (en : Int) := u64_wrap_lt en (by omega)
    have v2 : IntKind.u64.wrap (n : Int) = (n : Int) := u64_wrap_lt n (by omega)
    have v3 : IntKind.u64.wrap (d : Int) = (d : Int) := u64_wrap_lt d (by omega)
    have v4 : IntKind.u64.wrap (b : Int) = (b : Int) := u64_wrap_lt b (by omega)
    have p1 := fun W => add_fit W (H 0) (wBytes en 4) (by rw [s0, w4_size]; decide)
    have p2 := fun W => add_fit W (H 1) (wBytes n 4) (by rw [s1, w4_size]; decide)
    have p3 := fun W => add_fit W (H 2) (wBytes d 4) (by rw [s2, w4_size]; decide)
    have p4 := fun W => add_fit W (H 3) (wBytes b 4) (by rw [s3, w4_size]; decide)
    rw [a1] at p1; rw [a2] at p2; rw [a3] at p3; rw [a4] at p4
    have p5 := fun W => add_fit W (H 4) (zerosB 12) (by rw [s4, zerosB_size]; decide)
    have p6 := fun W => add_fit W (H 4 ++ zerosB 12) text (by rw [ByteArray.size_append, s4, zerosB_size, ← hn]; omega)
    have p7 := fun W => add_fit W (H 4 ++ zerosB 12 ++ text) data (by rw [ByteArray.size_append, ByteArray.size_append, s4, zerosB_size, ← hn, ← hd]; omega)
    rw [FIN.out] at p7
    have KB1 := Lib.hid (fun W => KB.out W en (by omega))
    have KB2 := fun W => KB.out W n (by omega)
    have KB3 := fun W => KB.out W d (by omega)
    have KB4 := Lib.hid (fun W => KB.out W b (by omega))
    have KR := Lib.hid rep12
    generalize wBytes en 4 = B1 at *
    generalize wBytes n 4 = B2 at *
    generalize wBytes d 4 = B3 at *
    generalize wBytes b 4 = B4 at *
    generalize zerosB 12 = Z at *
    have w12 : wrap64 (32 - (20 : Int)) = 12 := by unfold wrap64; omega
    clear m1 m2 m3 m4 m5 m6 m7 m8 m9 m10 hm e h a1 a2 a3 a4 KB FIN
    have i0 := fun W => idx4 W #[.int .i64 (en : Int), .int .i64 (n : Int), .int .i64 (d : Int), .int .i64 (b : Int)] 0 (by omega) _ rfl
    have i1 := fun W => idx4 W #[.int .i64 (en : Int), .int .i64 (n : Int), .int .i64 (d : Int), .int .i64 (b : Int)] 1 (by omega) _ rfl
    have i2 := fun W => idx4 W #[.int .i64 (en : Int), .int .i64 (n : Int), .int .i64 (d : Int), .int .i64 (b : Int)] 2 (by omega) _ rfl
    have i3 := fun W => idx4 W #[.int .i64 (en : Int), .int .i64 (n : Int), .int .i64 (d : Int), .int .i64 (b : Int)] 3 (by omega) _ rfl
    rw [hn, hd] at i0 i1 i2 i3
    rw [show ((0 : Nat) : Int) = 0 from rfl] at i0; rw [show ((1 : Nat) : Int) = 1 from rfl] at i1; rw [show ((2 : Nat) : Int) = 2 from rfl] at i2; rw [show ((3 : Nat) : Int) = 3 from rfl] at i3
    rw [hn] at v2 KB2; rw [hd] at v3 KB3
    clear hn hd
    have HZ := Lib.hid hz0
    clear hz0
    go_enter Try.func9, Try.ntmps9
    go_wp2_with fail
    refine (KM.out _).mono ?_
    rintro e w1 ⟨rfl, c1⟩
    have C1 := Lib.hid (C0.out.trans c1)
    have B1k := Lib.hid (c1.blk HB.out (fun a => a))
    have x0 := B1k.out.cellv 0 _ rfl
    have x1 := B1k.out.cellv 1 _ rfl
    have x2 := B1k.out.cellv 2 _ rfl
    have x3 := B1k.out.cellv 3 _ rfl
    clear c1
    go_wp2_with fail
    go_loopw [4, 21] (fun t i wr => ∃ k : Nat, k ≤ 4 ∧ i = .int .i64 k ∧ t = .string (H k) ∧ Hid (Chg (fun _ => False) w1 wr)) (fun _ i _ => 4 - (intOf i).toNat)
    case atStart => exact ⟨0, by omega, rfl, by rw [HZ.out], Lib.hid (Chg.refl _ _)⟩
    case round =>
      obtain ⟨k, hk, rfl, rfl, HC⟩ := hrel
      have hk5 : k = 0 ∨ k = 1 ∨ k = 2 ∨ k = 3 ∨ k = 4 := by omega
      rcases hk5 with rfl | rfl | rfl | rfl | rfl
      · go_wp2_with fail
        refine (KB1.out _).mono ?_
        rintro e w3 ⟨rfl, c3⟩
        have C3 := Lib.hid (HC.out.trans c3); clear c3
        go_wp2_with fail
        go_roundw
        case rel => exact ⟨1, by omega, by go_num, rfl, C3⟩
        case measure => simp [intOf]
      · go_wp2_with fail
        refine (KB2 _).mono ?_
        rintro e w3 ⟨rfl, c3⟩
        have C3 := Lib.hid (HC.out.trans c3); clear c3
        go_wp2_with fail
        go_roundw
        case rel => exact ⟨2, by omega, by go_num, rfl, C3⟩
        case measure => simp [intOf]
      · go_wp2_with fail
        refine (KB3 _).mono ?_
        rintro e w3 ⟨rfl, c3⟩
        have C3 := Lib.hid (HC.out.trans c3); clear c3
        go_wp2_with fail
        go_roundw
        case rel => exact ⟨3, by omega, by go_num, rfl, C3⟩
        case measure => simp [intOf]
      · go_wp2_with fail
        refine (KB4.out _).mono ?_
        rintro e w3 ⟨rfl, c3⟩
        have C3 := Lib.hid (HC.out.trans c3); clear c3
        go_wp2_with fail
        go_roundw
        case rel => exact ⟨4, by omega, by go_num, rfl, C3⟩
        case measure => simp [intOf]
      · have B2k := Lib.hid (HC.out.blk B1k.out (fun a => a))
        have x1 := B2k.out.cellv 1 _ rfl
        have x2 := B2k.out.cellv 2 _ rfl
        have KR1 := Lib.hid (KR.out wr.drew)
        go_wp2_with fail
        go_region_held3 (fun w' => w'.cell? ⟨w.heap.size, 1, none⟩ = some (.string text) ∧ w'.cell? ⟨w.heap.size, 2, none⟩ = some (.string data)) (first | assumption | exact ⟨x1, x2⟩ | (simp [*]; done))
          (first
            | (go_at_call 23; refine KR1.out.mono ?_; rintro e v1 ⟨rfl, c5⟩; have cT : v1.cell? ⟨w.heap.size, 1, none⟩ = some (.string text) ∧ v1.cell? ⟨w.heap.size, 2, none⟩ = some (.string data) := ⟨(c5.blk B2k.out.drew (fun a => a)).cellv 1 _ rfl, (c5.blk B2k.out.drew (fun a => a)).cellv 2 _ rfl⟩; have C5 := Lib.hid ((C1.out.trans HC.out).drew.trans c5); clear c5))
        go_wp2_with fail
        go_ret2
        exact ⟨rfl, C5.out⟩
end Go.Proofs.Ytijooajhjcfneaa
