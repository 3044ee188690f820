/-
  The pool and the document's, that share nothing: each call on either.
-/
import Derived.Test.YteamkchcpmoicaaRPool2
import Derived.Test.YteamkchcpmoicaaFrLeast
namespace Go.Proofs.Yteamkchcpmoicaa
open Go.RowKit

theorem tkn_take (Fr : Nat → Bool) (first F L : Nat) (h1 : first ≤ L) (h2 : L < F) : setF (tkn Fr first F) L true = tkn (setF Fr L false) first F := by
  funext g
  unfold setF tkn
  by_cases e : g = L
  · subst e; simp [h1, h2]
  · simp [e]
theorem tkn_give (Fr : Nat → Bool) (first F L : Nat) : setF (tkn Fr first F) L false = tkn (setF Fr L true) first F := by
  funext g
  unfold setF tkn
  by_cases e : g = L
  · subst e; simp
  · simp [e]
theorem tkn_all (first F : Nat) : (fun _ => false) = tkn (frAll first F) first F := by
  funext g
  unfold tkn frAll
  simp
theorem tkn_left (Fr : Nat → Bool) (first F : Nat) : cnt (fun f => !tkn Fr first F f) first (F - first) = cnt Fr first (F - first) := cnt_congr _ fun i hi => by
  unfold tkn
  rw [decide_eq_true (by omega)]
  simp
theorem tkn_taken (Fr : Nat → Bool) (first F : Nat) (f : Int) : (decide ((first : Int) ≤ f ∧ f < (F : Int)) && tkn Fr first F f.toNat) = (decide ((first : Int) ≤ f ∧ f < (F : Int)) && !Fr f.toNat) := by
  by_cases h : (first : Int) ≤ f ∧ f < (F : Int)
  · unfold tkn
    rw [decide_eq_true (show first ≤ f.toNat ∧ f.toNat < F by omega)]; simp
  · rw [decide_eq_false h]; rfl

/-- both own none of the blocks of S -/
def Fp (S : Nat → Prop) (w : World) (q p rq r F first : Nat) (Fr : Nat → Bool) (V : Nat → Nat) (Gr : Nat → Bool) (U : Nat → Nat) : Prop :=
  ∃ b o t hd g u, t < 18446744073709551616 ∧ u < 18446744073709551616 ∧ PoolA w q b p o F first Fr V t ∧ RPool w rq hd r g F first (tkn Gr first F) U u ∧ (∀ k, PoolOwn q b p o k → ¬ RpOwn rq hd r g k) ∧ (∀ k, PoolOwn q b p o k → ¬ S k) ∧ (∀ k, RpOwn rq hd r g k → ¬ S k) ∧ ∀ k, S k → k < w.heap.size
def StepFp (S : Nat → Prop) (w : World) (q p rq r F first : Nat) (Fr : Nat → Bool) (V : Nat → Nat) (Gr : Nat → Bool) (U : Nat → Nat) (v : Value) (e : Ending) (w' : World) : Prop := e = .returned v ∧ Fp S w' q p rq r F first Fr V Gr U ∧ Chg (fun k => ¬ S k) w w'
theorem Fp.nothing {S : Nat → Prop} {w w' : World} {q p rq r F first : Nat} {Fr Gr : Nat → Bool} {V U : Nat → Nat} (h : Fp S w q p rq r F first Fr V Gr U) (c : Chg (fun _ => False) w w') : Fp S w' q p rq r F first Fr V Gr U := by
  obtain ⟨b, o, t, hd, g, u, ht, hu, h1, h2, hd', hB, hR, hS⟩ := h
  exact ⟨b, o, t, hd, g, u, ht, hu, h1.chg c (fun _ _ h => h), h2.chg c (fun _ _ h => h), hd', hB, hR, fun k h => Nat.lt_of_lt_of_le (hS k h) c.size⟩
theorem Fp.left {S : Nat → Prop} {w w' : World} {q b p rq hd r g F first t u : Nat} {o : Option Nat} {Fr Gr : Nat → Bool} {V U : Nat → Nat} {v : Value} {e : Ending} (ht : t < 18446744073709551616) (hu : u < 18446744073709551616) (h2 : RPool w rq hd r g F first (tkn Gr first F) U u) (hd' : ∀ k, PoolOwn q b p o k → ¬ RpOwn rq hd r g k)
    (hB : ∀ k, PoolOwn q b p o k → ¬ S k) (hR : ∀ k, RpOwn rq hd r g k → ¬ S k) (hS : ∀ k, S k → k < w.heap.size) (k : PoolK w q b p F first t o Fr V v e w') : StepFp S w q p rq r F first Fr V Gr U v e w' := by
  obtain ⟨he, o', hp, hc, hk⟩ := k
  have hown : ∀ k, PoolOwn q b p o' k → PoolOwn q b p o k ∨ w.heap.size ≤ k := by
    rintro k (a | a | a)
    · exact .inl (.inl a)
    · exact .inl (.inr (.inl a))
    · exact (hk k a).imp (fun a => .inr (.inr a)) id
  refine ⟨he, ⟨b, o', t, hd, g, u, ht, hu, hp, h2.chg hc (fun k a b => hd' k b a), fun k a c => ?_, fun k a c => ?_, hR, fun k h => Nat.lt_of_lt_of_le (hS k h) hc.size⟩, hc.mono hB⟩
  · rcases hown k a with a | a
    · exact hd' k a c
    · have := h2.lt k c; omega
  · rcases hown k a with a | a
    · exact hB k a c
    · have := hS k c; omega
theorem Fp.right {S : Nat → Prop} {w w' : World} {q b p rq hd r g F first t u : Nat} {o : Option Nat} {Fr Gr : Nat → Bool} {V U : Nat → Nat} {v : Value} {e : Ending} (ht : t < 18446744073709551616) (hu : u < 18446744073709551616) (h1 : PoolA w q b p o F first Fr V t) (hd' : ∀ k, PoolOwn q b p o k → ¬ RpOwn rq hd r g k)
    (hB : ∀ k, PoolOwn q b p o k → ¬ S k) (hR : ∀ k, RpOwn rq hd r g k → ¬ S k) (hS : ∀ k, S k → k < w.heap.size) (k : RpK w rq hd r g F first (tkn Gr first F) U u v e w') : StepFp S w q p rq r F first Fr V Gr U v e w' := by
  obtain ⟨he, hp, hc⟩ := k
  exact ⟨he, ⟨b, o, t, hd, g, u, ht, hu, h1.chg hc (fun k a b => hd' k a b), hp, hd', hB, hR, fun k h => Nat.lt_of_lt_of_le (hS k h) hc.size⟩, hc.mono hR⟩
/-- the document's fields -/
theorem Fp.fields {S : Nat → Prop} {w : World} {q p rq r F first : Nat} {Fr Gr : Nat → Bool} {V U : Nat → Nat} (h : Fp S w q p rq r F first Fr V Gr U) :
    w.cell? ⟨rq, 0, none⟩ = some (.pointer (some ⟨r, 0, none⟩)) ∧ ∃ g, w.cell? ⟨r, 0, none⟩ = some (.slice (some ⟨g, 0, none⟩) (F * 256) (F * 256)) ∧ ∀ cap, (convert 57 9 (.slice (some ⟨g, 0, none⟩) (F * 256) cap)).run Try.prog w = .ok (.string (memStr U 0 (F * 256))) w := by
  obtain ⟨b, o, t, hd, g, u, ht, hu, h1, h2, hd', hB, hR, hS⟩ := h
  exact ⟨h2.blk.cellv 0 _ rfl, g, h2.mem.blk.cellv 0 _ rfl, fun cap => row_string w g (F * 256) U h2.mem.row 0 0 (F * 256) cap (fun _ => rfl) (by omega)⟩

theorem fl_take_some {S : Nat → Prop} {w : World} {q p rq r F first : Nat} {Fr Gr : Nat → Bool} {V U : Nat → Nat} (h : Fp S w q p rq r F first Fr V Gr U) (hF : F ≤ 256) (f : Nat) (hf1 : first ≤ f) (hf2 : f < F) (hfr : Fr f = true) (hno : ∀ j, first ≤ j → j < f → Fr j = false) :
    Calls Try.prog 18 #[.pointer (some ⟨q, 0, none⟩)] w (StepFp S w q p rq r F first (setF Fr f false) (clV F V f) Gr U (.tuple #[.int .i64 f, .int .i64 0])) := by
  obtain ⟨b, o, t, hd, g, u, ht, hu, h1, h2, hd', hB, hR, hS⟩ := h
  exact (pool_take_some w q b p F first t hF o Fr V h1 f hf1 hf2 hfr hno).mono fun _ _ k => Fp.left ht hu h2 hd' hB hR hS k

theorem fl_take_none {S : Nat → Prop} {w : World} {q p rq r F first : Nat} {Fr Gr : Nat → Bool} {V U : Nat → Nat} (h : Fp S w q p rq r F first Fr V Gr U) (hF : F ≤ 256) (hno : ∀ j, first ≤ j → j < F → Fr j = false) :
    Calls Try.prog 18 #[.pointer (some ⟨q, 0, none⟩)] w (StepFp S w q p rq r F first Fr V Gr U (.tuple #[.int .i64 0, .int .i64 4])) := by
  have h' := h
  obtain ⟨b, o, t, hd, g, u, ht, hu, h1, h2, hd', hB, hR, hS⟩ := h
  exact (pool_take_none w q b p F first t hF o Fr V h1 hno).mono fun _ _ ⟨k1, k2⟩ => ⟨k1, h'.nothing k2, k2.mono (fun _ h => h.elim)⟩

theorem fl_give_yes {S : Nat → Prop} {w : World} {q p rq r F first : Nat} {Fr Gr : Nat → Bool} {V U : Nat → Nat} (h : Fp S w q p rq r F first Fr V Gr U) (hF : F ≤ 256) (f : Nat) (h1' : first ≤ f) (h2' : f < F) (hf : Fr f = false) :
    Calls Try.prog 19 #[.pointer (some ⟨q, 0, none⟩), .int .i64 f] w (StepFp S w q p rq r F first (setF Fr f true) (clV F V f) Gr U (.int .i64 0)) := by
  obtain ⟨b, o, t, hd, g, u, ht, hu, h1, h2, hd', hB, hR, hS⟩ := h
  exact (pool_give_yes w q b p F first t hF o Fr V h1 f h1' h2' hf).mono fun _ _ k => Fp.left ht hu h2 hd' hB hR hS k

theorem fl_give_no {S : Nat → Prop} {w : World} {q p rq r F first : Nat} {Fr Gr : Nat → Bool} {V U : Nat → Nat} (h : Fp S w q p rq r F first Fr V Gr U) (hF : F ≤ 256) (f : Int) (hf : ¬ ((first : Int) ≤ f ∧ f < (F : Int) ∧ Fr f.toNat = false)) :
    Calls Try.prog 19 #[.pointer (some ⟨q, 0, none⟩), .int .i64 f] w (StepFp S w q p rq r F first Fr V Gr U (.int .i64 1)) := by
  have h' := h
  obtain ⟨b, o, t, hd, g, u, ht, hu, h1, h2, hd', hB, hR, hS⟩ := h
  exact (pool_give_no w q b p F first t hF o Fr V h1 f hf).mono fun _ _ ⟨k1, k2⟩ => ⟨k1, h'.nothing k2, k2.mono (fun _ h => h.elim)⟩

theorem fl_taken {S : Nat → Prop} {w : World} {q p rq r F first : Nat} {Fr Gr : Nat → Bool} {V U : Nat → Nat} (h : Fp S w q p rq r F first Fr V Gr U) (hF : F ≤ 256) (f : Int) :
    Calls Try.prog 17 #[.pointer (some ⟨q, 0, none⟩), .int .i64 f] w (StepFp S w q p rq r F first Fr V Gr U (.bool (decide ((first : Int) ≤ f ∧ f < (F : Int)) && !Fr f.toNat))) := by
  have h' := h
  obtain ⟨b, o, t, hd, g, u, ht, hu, h1, h2, hd', hB, hR, hS⟩ := h
  exact (pool_taken w q b p F first t hF o Fr V h1 f).mono fun _ _ ⟨k1, k2⟩ => ⟨k1, h'.nothing k2, k2.mono (fun _ h => h.elim)⟩

theorem fl_put {S : Nat → Prop} {w : World} {q p rq r F first : Nat} {Fr Gr : Nat → Bool} {V U : Nat → Nat} (h : Fp S w q p rq r F first Fr V Gr U) (hF : F ≤ 256) (at_ : Nat) (hw : at_ < 18446744073709551616) (s : ByteArray) (hs : s.size ≤ maxLen) :
    Calls Try.prog 25 #[.pointer (some ⟨p, 0, none⟩), .int .u64 at_, .string s] w (StepFp S w q p rq r F first Fr (ptV F V at_ s) Gr U (.int .i64 (cdP F at_ s))) := by
  obtain ⟨b, o, t, hd, g, u, ht, hu, h1, h2, hd', hB, hR, hS⟩ := h
  exact ((m_put w p F t hF o V h1.mem at_ hw s hs).mono fun _ _ k => h1.worked k).mono fun _ _ k => Fp.left ht hu h2 hd' hB hR hS k

theorem fl_get {S : Nat → Prop} {w : World} {q p rq r F first : Nat} {Fr Gr : Nat → Bool} {V U : Nat → Nat} (h : Fp S w q p rq r F first Fr V Gr U) (hF : F ≤ 256) (at_ : Nat) (hw : at_ < 18446744073709551616) (n : Int) (hn : n ≤ 9223372036854775807) :
    Calls Try.prog 26 #[.pointer (some ⟨p, 0, none⟩), .int .u64 at_, .int .i64 n] w (StepFp S w q p rq r F first Fr V Gr U (.tuple #[.string (gtS F V at_ n), .int .i64 (cdG F at_ n)])) := by
  obtain ⟨b, o, t, hd, g, u, ht, hu, h1, h2, hd', hB, hR, hS⟩ := h
  exact ((m_get w p F t hF o V h1.mem at_ hw n hn).mono fun _ _ k => h1.worked k).mono fun _ _ k => Fp.left ht hu h2 hd' hB hR hS k

theorem fr_take_some {S : Nat → Prop} {w : World} {q p rq r F first : Nat} {Fr Gr : Nat → Bool} {V U : Nat → Nat} (h : Fp S w q p rq r F first Fr V Gr U) (hF : F ≤ 256) (f : Nat) (hf1 : first ≤ f) (hf2 : f < F) (hfr : Gr f = true) (hno : ∀ j, first ≤ j → j < f → Gr j = false) :
    Calls Try.prog 32 #[.pointer (some ⟨rq, 0, none⟩)] w (StepFp S w q p rq r F first Fr V (setF Gr f false) (clV F U f) (.tuple #[.int .i64 f, .int .i64 0])) := by
  have h' := h
  obtain ⟨b, o, t, hd, g, u, ht, hu, h1, h2, hd', hB, hR, hS⟩ := h
  refine (rp_take_some w rq hd r g F first u hF _ U h2 f hf1 hf2 (by unfold tkn; rw [hfr]; simp) (fun j a c => by unfold tkn; rw [hno j a c, decide_eq_true (by omega)]; rfl)).mono fun _ _ k => ?_
  rw [tkn_take Gr first F f hf1 hf2] at k
  exact Fp.right ht hu h1 hd' hB hR hS k

theorem fr_take_none {S : Nat → Prop} {w : World} {q p rq r F first : Nat} {Fr Gr : Nat → Bool} {V U : Nat → Nat} (h : Fp S w q p rq r F first Fr V Gr U) (hF : F ≤ 256) (hno : ∀ j, first ≤ j → j < F → Gr j = false) :
    Calls Try.prog 32 #[.pointer (some ⟨rq, 0, none⟩)] w (StepFp S w q p rq r F first Fr V Gr U (.tuple #[.int .i64 0, .int .i64 4])) := by
  have h' := h
  obtain ⟨b, o, t, hd, g, u, ht, hu, h1, h2, hd', hB, hR, hS⟩ := h
  exact (rp_take_none w rq hd r g F first u hF _ U h2 (fun j a c => by unfold tkn; rw [hno j a c, decide_eq_true (by omega)]; rfl)).mono fun _ _ ⟨k1, k2⟩ => by subst k2; exact ⟨k1, h', Chg.refl _ _⟩

theorem fr_give_yes {S : Nat → Prop} {w : World} {q p rq r F first : Nat} {Fr Gr : Nat → Bool} {V U : Nat → Nat} (h : Fp S w q p rq r F first Fr V Gr U) (hF : F ≤ 256) (f : Nat) (h1' : first ≤ f) (h2' : f < F) (hf : Gr f = false) :
    Calls Try.prog 33 #[.pointer (some ⟨rq, 0, none⟩), .int .i64 f] w (StepFp S w q p rq r F first Fr V (setF Gr f true) (clV F U f) (.int .i64 0)) := by
  have h' := h
  obtain ⟨b, o, t, hd, g, u, ht, hu, h1, h2, hd', hB, hR, hS⟩ := h
  refine (rp_give_yes w rq hd r g F first u hF _ U h2 f h1' h2' (by unfold tkn; rw [hf, decide_eq_true (by omega)]; rfl)).mono fun _ _ k => ?_
  rw [tkn_give Gr first F f] at k
  exact Fp.right ht hu h1 hd' hB hR hS k

theorem fr_give_no {S : Nat → Prop} {w : World} {q p rq r F first : Nat} {Fr Gr : Nat → Bool} {V U : Nat → Nat} (h : Fp S w q p rq r F first Fr V Gr U) (hF : F ≤ 256) (f : Int) (hf : ¬ ((first : Int) ≤ f ∧ f < (F : Int) ∧ Gr f.toNat = false)) :
    Calls Try.prog 33 #[.pointer (some ⟨rq, 0, none⟩), .int .i64 f] w (StepFp S w q p rq r F first Fr V Gr U (.int .i64 1)) := by
  have h' := h
  obtain ⟨b, o, t, hd, g, u, ht, hu, h1, h2, hd', hB, hR, hS⟩ := h
  exact (rp_give_no w rq hd r g F first u hF _ U h2 f (fun c => hf ⟨c.1, c.2.1, by have := c.2.2; unfold tkn at this; simp at this; exact this.2⟩)).mono fun _ _ ⟨k1, k2⟩ => by subst k2; exact ⟨k1, h', Chg.refl _ _⟩

theorem fr_put {S : Nat → Prop} {w : World} {q p rq r F first : Nat} {Fr Gr : Nat → Bool} {V U : Nat → Nat} (h : Fp S w q p rq r F first Fr V Gr U) (hF : F ≤ 256) (at_ : Nat) (hw : at_ < 18446744073709551616) (s : ByteArray) (hs : s.size ≤ maxLen) :
    Calls Try.prog 34 #[.pointer (some ⟨r, 0, none⟩), .int .u64 at_, .string s] w (StepFp S w q p rq r F first Fr V Gr (ptV F U at_ s) (.int .i64 (cdP F at_ s))) := by
  have h' := h
  obtain ⟨b, o, t, hd, g, u, ht, hu, h1, h2, hd', hB, hR, hS⟩ := h
  exact (rm_put w r g F u hF U h2.mem at_ hw s hs).mono fun _ _ k => Fp.right ht hu h1 hd' hB hR hS (h2.worked k)

theorem fr_taken {S : Nat → Prop} {w : World} {q p rq r F first : Nat} {Fr Gr : Nat → Bool} {V U : Nat → Nat} (h : Fp S w q p rq r F first Fr V Gr U) (hF : F ≤ 256) (f : Int) :
    Calls Try.prog 36 #[.pointer (some ⟨rq, 0, none⟩), .int .i64 f] w fun e w' => e = .returned (.bool (decide ((first : Int) ≤ f ∧ f < (F : Int)) && !Gr f.toNat)) ∧ w = w' := by
  obtain ⟨b, o, t, hd, g, u, ht, hu, h1, h2, hd', hB, hR, hS⟩ := h
  have k := rp_taken w rq hd r g F first u hF _ U h2 f
  rw [tkn_taken] at k
  exact k
theorem fr_left {S : Nat → Prop} {w : World} {q p rq r F first : Nat} {Fr Gr : Nat → Bool} {V U : Nat → Nat} (h : Fp S w q p rq r F first Fr V Gr U) (hF : F ≤ 256) :
    Calls Try.prog 35 #[.pointer (some ⟨rq, 0, none⟩)] w fun e w' => e = .returned (.int .i64 (cnt Gr first (F - first) : Nat)) ∧ w = w' := by
  obtain ⟨b, o, t, hd, g, u, ht, hu, h1, h2, hd', hB, hR, hS⟩ := h
  have k := rp_left w rq hd r g F first u hF _ U h2
  rw [tkn_left] at k
  exact k
theorem fl_left {S : Nat → Prop} {w : World} {q p rq r F first : Nat} {Fr Gr : Nat → Bool} {V U : Nat → Nat} (h : Fp S w q p rq r F first Fr V Gr U) :
    Calls Try.prog 20 #[.pointer (some ⟨q, 0, none⟩)] w fun e w' => e = .returned (.int .i64 (cnt Fr first (F - first) : Nat)) ∧ w = w' := by
  obtain ⟨b, o, t, hd, g, u, ht, hu, h1, h2, hd', hB, hR, hS⟩ := h
  exact pool_left w q b p F first t o Fr V h1
theorem fl_mem {S : Nat → Prop} {w : World} {q p rq r F first : Nat} {Fr Gr : Nat → Bool} {V U : Nat → Nat} (h : Fp S w q p rq r F first Fr V Gr U) :
    Calls Try.prog 24 #[.pointer (some ⟨q, 0, none⟩)] w fun e w' => e = .returned (.pointer (some ⟨p, 0, none⟩)) ∧ w = w' := by
  obtain ⟨b, o, t, hd, g, u, ht, hu, h1, h2, hd', hB, hR, hS⟩ := h
  exact pool_mem w q b p F first t o Fr V h1
/-- both are made -/
theorem Fp.made {B : Nat} {w w1 w2 : World} {q p r g F first u : Nat} {Fr : Nat → Bool} {V U : Nat → Nat} (h : Pl (fun k => k < B) w q p F first Fr V) (hm : RM w1 r g F U u) (hu : u < 18446744073709551616) (c1 : Chg (fun _ => False) w w1) (hr : w.heap.size ≤ r) (hg : w.heap.size ≤ g) (hB0 : B ≤ w.heap.size)
    (h2 : RPool w2 (w1.heap.size + 1) w1.heap.size r g F first (tkn Fr first F) U u) (c2 : Chg (fun _ => False) w1 w2) : Fp (fun k => k < B) w2 q p (w1.heap.size + 1) r F first Fr V Fr U := by
  obtain ⟨b, o, t, ht, hp, hB, hS⟩ := h
  have hl := hp.lt
  have s1 := c1.size
  have s2 := c2.size
  have c := c1.trans c2
  refine ⟨b, o, t, w1.heap.size, g, u, ht, hu, hp.chg c (fun _ _ h => h), h2, fun k a d => ?_, hB, fun k d e => ?_, fun k (e : k < B) => by omega⟩
  · have := hl k a
    rcases d with d | d | d | d <;> omega
  · have e' : k < B := e
    rcases d with d | d | d | d <;> omega
end Go.Proofs.Yteamkchcpmoicaa
