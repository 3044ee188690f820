/-
  Load, by its contract.
-/
import Derived.Test.YtijooajhjcfneaaGreatG26
namespace Go.Proofs.YtijooajhjcfneaaGreat
open Go.RowKit

/-- a program's space -/
def loadS (F : Nat) (s : PS) (x : Prg) (a b : Nat) : PS := flN F (s.top F) 56 23 ⟨#[]⟩ (flN F (s.top F) (1 + a) 23 x.data (flN F (s.top F) 1 27 x.text (s.take F) a) b) 8
/-- .. is filled -/
structure LdI (S : Nat → Prop) (w0 : World) (q p F root m : Nat) (s : PS) (W : World) : Prop where
  st : ∃ R, FI F root (shQ m) s R ∧ ∀ j, hasB F R root 0 j = shQ m 0 j
  pl : Pl S W q p F 0 s.Fr s.V
  chg : Chg (fun k => ¬ S k) w0 W
theorem ld1 {S : Nat → Prop} {w : World} {q p F : Nat} {s s1 : PS} {R : Roles} {x : Prg} {a m : Nat} (hF : F ≤ 256) (g : SG F s R) (hx : x.may = true) (ha : a = pagesN x.text.size) (hm : m ≤ 28) (ham : a ≤ m) (hl : m + 12 ≤ s.left F) (h : Pl S w q p F 0 (s.take F).Fr (s.take F).V) (hs : flN F (s.top F) 1 27 x.text (s.take F) a = s1) :
    Calls Tryz.prog 29 #[.pointer (some ⟨q, 0, none⟩), .int .i64 (s.top F : Nat), .int .i64 1, .int .i64 a, .int .u64 27, .string x.text] w fun e w' => e = .returned (.int .i64 0) ∧ (∃ R', FI F (s.top F) (shQ m) s1 R' ∧ ∀ j, hasB F R' (s.top F) 0 j = decide (1 ≤ j ∧ j < 1 + a)) ∧ Pl S w' q p F 0 s1.Fr s1.V ∧ Chg (fun k => ¬ S k) w w' := by
  obtain ⟨f, hno⟩ := FI.start g hm hl
  obtain ⟨m1, m2, _⟩ := may_nums hx
  have k := p_fill_round (page := 1) (bits := 27) h hF f (by omega) (by omega) (by decide) (by decide) (by omega) (fun k _ => hno _) (fun k hk => shQ_low m (1 + k) (by omega) (by omega) hm) hs
  refine k.mono fun e w' ⟨h1, ⟨⟨R', f', hb⟩, hp, hc⟩⟩ => ⟨h1, ⟨R', f', fun j => ?_⟩, hp, hc⟩
  rw [hb, hno, Bool.false_or]
theorem ld2 {S : Nat → Prop} {w : World} {q p F root : Nat} {s1 s2 : PS} {x : Prg} {a b m : Nat} (hF : F ≤ 256) (hx : x.may = true) (hm : m ≤ 28) (ham : m = a + b) (h : Pl S w q p F 0 s1.Fr s1.V) (hR : ∃ R', FI F root (shQ m) s1 R' ∧ ∀ j, hasB F R' root 0 j = decide (1 ≤ j ∧ j < 1 + a)) (hs : flN F root (1 + a) 23 x.data s1 b = s2) :
    Calls Tryz.prog 29 #[.pointer (some ⟨q, 0, none⟩), .int .i64 root, .int .i64 (1 + (a : Int)), .int .i64 b, .int .u64 23, .string x.data] w fun e w' => e = .returned (.int .i64 0) ∧ (∃ R', FI F root (shQ m) s2 R' ∧ ∀ j, hasB F R' root 0 j = decide (1 ≤ j ∧ j < 1 + m)) ∧ Pl S w' q p F 0 s2.Fr s2.V ∧ Chg (fun k => ¬ S k) w w' := by
  obtain ⟨R1, f, hno⟩ := hR
  obtain ⟨_, _, _, _, _, _, m7, _⟩ := may_nums hx
  have k := p_fill_round (page := 1 + a) (bits := 23) h hF f (show b ≤ 100 by omega) (by omega) (by decide) (by decide) (by omega) (fun k _ => by rw [hno]; exact decide_eq_false (by omega)) (fun k hk => shQ_low m (1 + a + k) (by omega) (by omega) hm) hs
  rw [show ((1 + a : Nat) : Int) = 1 + (a : Int) from by omega] at k
  refine k.mono fun e w' ⟨h1, ⟨⟨R', f', hb⟩, hp, hc⟩⟩ => ⟨h1, ⟨R', f', fun j => ?_⟩, hp, hc⟩
  rw [hb, hno, ← Bool.decide_or]
  apply Bool.eq_iff_iff.2
  rw [decide_eq_true_eq, decide_eq_true_eq]
  omega
theorem ld3 {S : Nat → Prop} {w : World} {q p F root : Nat} {s2 s3 : PS} {m : Nat} (hF : F ≤ 256) (hm : m ≤ 28) (h : Pl S w q p F 0 s2.Fr s2.V) (hR : ∃ R', FI F root (shQ m) s2 R' ∧ ∀ j, hasB F R' root 0 j = decide (1 ≤ j ∧ j < 1 + m)) (hs : flN F root 56 23 ⟨#[]⟩ s2 8 = s3) :
    Calls Tryz.prog 29 #[.pointer (some ⟨q, 0, none⟩), .int .i64 root, .int .i64 56, .int .i64 8, .int .u64 23, .string ⟨#[]⟩] w fun e w' => e = .returned (.int .i64 0) ∧ LdI S w q p F root m s3 w' := by
  obtain ⟨R1, f, hno⟩ := hR
  have k := p_fill_round (page := 56) (bits := 23) (many := 8) h hF f (by omega) (by omega) (by decide) (by decide) (by decide) (fun k _ => by rw [hno]; exact decide_eq_false (by omega)) (fun k hk => shQ_high m (56 + k) (by omega) (by omega)) hs
  refine k.mono fun e w' ⟨h1, ⟨⟨R', f', hb⟩, hp, hc⟩⟩ => ⟨h1, ⟨R', f', fun j => ?_⟩, hp, hc⟩
  rw [hb, hno]
  rfl
/-- the registers of a hart that begins -/
def hartC (pc : Nat) : Array Value := #[.int .u64 0, .int .u64 0, .int .u64 16384, .int .u64 0, .int .u64 0, .int .u64 0, .int .u64 0, .int .u64 0, .int .u64 0, .int .u64 0, .int .u64 0, .int .u64 0, .int .u64 0, .int .u64 0, .int .u64 0, .int .u64 0, .int .u64 0, .int .u64 0, .int .u64 0, .int .u64 0, .int .u64 0, .int .u64 0, .int .u64 0, .int .u64 0, .int .u64 0, .int .u64 0, .int .u64 0, .int .u64 0, .int .u64 0, .int .u64 0, .int .u64 0, .int .u64 0, .int .u64 pc, .bool false, .int .u64 0]
/-- the program's block and the result's, beside the pool -/
structure LoK (S : Nat → Prop) (w0 : World) (cs : Array Value) (W : World) : Prop where
  b : Blk W w0.heap.size cs 23
  r : Blk W (w0.heap.size + 1) #[.int .u64 0, .int .u64 0, .int .u64 0, .int .u64 0, .int .u64 0, .int .u64 0, .int .u64 0, .int .u64 0, .int .u64 0, .int .u64 0, .int .u64 0, .int .u64 0, .int .u64 0, .int .u64 0, .int .u64 0, .int .u64 0, .int .u64 0, .int .u64 0, .int .u64 0, .int .u64 0, .int .u64 0, .int .u64 0, .int .u64 0, .int .u64 0, .int .u64 0, .int .u64 0, .int .u64 0, .int .u64 0, .int .u64 0, .int .u64 0, .int .u64 0, .int .u64 0, .int .u64 0, .bool false, .int .u64 0] 29
  c : Chg (fun k => ¬ S k) w0 W
def S2 (S : Nat → Prop) (w0 : World) (k : Nat) : Prop := S k ∨ k = w0.heap.size ∨ k = w0.heap.size + 1
theorem LoK.step {S : Nat → Prop} {w0 W W' : World} {cs : Array Value} (h : LoK S w0 cs W) (c : Chg (fun k => ¬ S2 S w0 k) W W') : LoK S w0 cs W' :=
  ⟨c.blk h.b (fun a => a (.inr (.inl rfl))), c.blk h.r (fun a => a (.inr (.inr rfl))), h.c.trans (c.mono fun k a b => a (.inl b))⟩
theorem LoK.none {S : Nat → Prop} {w0 W W' : World} {cs : Array Value} (h : LoK S w0 cs W) (c : Chg (fun _ => False) W W') : LoK S w0 cs W' := h.step (c.mono fun _ a => a.elim)
theorem LoK.start {S : Nat → Prop} {w0 : World} {q p F : Nat} {s : PS} (h : Pl S w0 q p F 0 s.Fr s.V) (cs : Array Value) : LoK S w0 cs ((w0.alloc (.cells cs 23)).alloc (.cells #[.int .u64 0, .int .u64 0, .int .u64 0, .int .u64 0, .int .u64 0, .int .u64 0, .int .u64 0, .int .u64 0, .int .u64 0, .int .u64 0, .int .u64 0, .int .u64 0, .int .u64 0, .int .u64 0, .int .u64 0, .int .u64 0, .int .u64 0, .int .u64 0, .int .u64 0, .int .u64 0, .int .u64 0, .int .u64 0, .int .u64 0, .int .u64 0, .int .u64 0, .int .u64 0, .int .u64 0, .int .u64 0, .int .u64 0, .int .u64 0, .int .u64 0, .int .u64 0, .int .u64 0, .bool false, .int .u64 0] 29)) ∧ Pl (S2 S w0) ((w0.alloc (.cells cs 23)).alloc (.cells #[.int .u64 0, .int .u64 0, .int .u64 0, .int .u64 0, .int .u64 0, .int .u64 0, .int .u64 0, .int .u64 0, .int .u64 0, .int .u64 0, .int .u64 0, .int .u64 0, .int .u64 0, .int .u64 0, .int .u64 0, .int .u64 0, .int .u64 0, .int .u64 0, .int .u64 0, .int .u64 0, .int .u64 0, .int .u64 0, .int .u64 0, .int .u64 0, .int .u64 0, .int .u64 0, .int .u64 0, .int .u64 0, .int .u64 0, .int .u64 0, .int .u64 0, .int .u64 0, .int .u64 0, .bool false, .int .u64 0] 29)) q p F 0 s.Fr s.V := by
  have z1 : (w0.alloc (.cells cs 23)).heap.size = w0.heap.size + 1 := by simp
  have h2 := Blk.new (w0.alloc (.cells cs 23)) #[.int .u64 0, .int .u64 0, .int .u64 0, .int .u64 0, .int .u64 0, .int .u64 0, .int .u64 0, .int .u64 0, .int .u64 0, .int .u64 0, .int .u64 0, .int .u64 0, .int .u64 0, .int .u64 0, .int .u64 0, .int .u64 0, .int .u64 0, .int .u64 0, .int .u64 0, .int .u64 0, .int .u64 0, .int .u64 0, .int .u64 0, .int .u64 0, .int .u64 0, .int .u64 0, .int .u64 0, .int .u64 0, .int .u64 0, .int .u64 0, .int .u64 0, .int .u64 0, .int .u64 0, .bool false, .int .u64 0] 29
  rw [z1] at h2
  have c : Chg (fun _ => False) w0 ((w0.alloc (.cells cs 23)).alloc (.cells #[.int .u64 0, .int .u64 0, .int .u64 0, .int .u64 0, .int .u64 0, .int .u64 0, .int .u64 0, .int .u64 0, .int .u64 0, .int .u64 0, .int .u64 0, .int .u64 0, .int .u64 0, .int .u64 0, .int .u64 0, .int .u64 0, .int .u64 0, .int .u64 0, .int .u64 0, .int .u64 0, .int .u64 0, .int .u64 0, .int .u64 0, .int .u64 0, .int .u64 0, .int .u64 0, .int .u64 0, .int .u64 0, .int .u64 0, .int .u64 0, .int .u64 0, .int .u64 0, .int .u64 0, .bool false, .int .u64 0] 29)) := ((Chg.refl _ w0).alloc _).alloc _
  refine ⟨⟨(Blk.new w0 _ _).alloc _, h2, c.mono fun _ a => a.elim⟩, h.beside c (fun _ a => a.elim) (fun k hk => ?_) (fun k hk => ?_)⟩
  · rcases hk with hk | hk | hk
    · exact .inl hk
    · exact .inr (by omega)
    · exact .inr (by omega)
  · have hz : ((w0.alloc (.cells cs 23)).alloc (.cells #[.int .u64 0, .int .u64 0, .int .u64 0, .int .u64 0, .int .u64 0, .int .u64 0, .int .u64 0, .int .u64 0, .int .u64 0, .int .u64 0, .int .u64 0, .int .u64 0, .int .u64 0, .int .u64 0, .int .u64 0, .int .u64 0, .int .u64 0, .int .u64 0, .int .u64 0, .int .u64 0, .int .u64 0, .int .u64 0, .int .u64 0, .int .u64 0, .int .u64 0, .int .u64 0, .int .u64 0, .int .u64 0, .int .u64 0, .int .u64 0, .int .u64 0, .int .u64 0, .int .u64 0, .bool false, .int .u64 0] 29)).heap.size = w0.heap.size + 2 := by simp
    rw [hz]
    rcases hk with hk | hk | hk
    · have := h.lt k hk; omega
    · omega
    · omega
theorem ld_n1 (en : Nat) (h : en < 4096) : IntKind.u64.wrap (en : Int) = (en : Int) ∧ IntKind.u64.wrap (256 + (en : Int)) = ((256 + en : Nat) : Int) := by
  refine ⟨u64_wrap_lt en (by omega), ?_⟩
  rw [u64_wrap]; omega
theorem ld_n2 (a d b : Nat) (h1 : a ≤ 8) (h2 : d ≤ 1024) (h3 : b ≤ 4096) : IntKind.i64.wrap (1 + (a : Int)) = ((1 + a : Nat) : Int) ∧ IntKind.i64.wrap (((1 + a : Nat) : Int) * 256) = ((256 * (1 + a) : Nat) : Int) ∧ IntKind.i64.wrap (((256 * (1 + a) : Nat) : Int) + (d : Int)) = ((256 * (1 + a) + d : Nat) : Int) ∧ IntKind.i64.wrap (((256 * (1 + a) + d : Nat) : Int) + (b : Int)) = ((256 * (1 + a) + d + b : Nat) : Int) ∧ IntKind.u64.wrap ((256 * (1 + a) + d + b : Nat) : Int) = ((256 * (1 + a) + d + b : Nat) : Int) :=
  ⟨i64_wrap_eq (by omega) (by omega), i64_wrap_eq (by omega) (by omega), i64_wrap_eq (by omega) (by omega), i64_wrap_eq (by omega) (by omega), u64_wrap_lt _ (by omega)⟩
end Go.Proofs.YtijooajhjcfneaaGreat
