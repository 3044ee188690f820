/-
  Several texts in one: FY, FYActs, FYDoes, FYActs2, FYRow.
-/
import Derived.Test.YtijooajhjcfneaaGreatG20
namespace Go.Proofs.YtijooajhjcfneaaGreat
open Go.RowKit

def FY (S : Nat → Prop) (w : World) (q p rq r F : Nat) (s u : PS) : Prop :=
  ∃ b o t hd g c, t < 18446744073709551616 ∧ c < 18446744073709551616 ∧ PoolA w q b p o F 0 s.Fr s.V t ∧ RPool w rq hd r g F 0 (tkn u.Fr 0 F) u.V c ∧ (∀ k, PoolOwn q b p o k → ¬ RpOwn rq hd r g k) ∧ (∀ k, PoolOwn q b p o k → ¬ S k) ∧ (∀ k, RpOwn rq hd r g k → ¬ S k) ∧ ∀ k, S k → k < w.heap.size
def StepY2 (S : Nat → Prop) (w : World) (q p rq r F : Nat) (s u : PS) (v : Value) (e : Ending) (w' : World) : Prop := e = .returned v ∧ FY S w' q p rq r F s u ∧ Chg (fun k => ¬ S k) w w'
theorem FY.lt {S : Nat → Prop} {w : World} {q p rq r F : Nat} {s u : PS} (h : FY S w q p rq r F s u) : ∀ k, S k → k < w.heap.size := by
  obtain ⟨b, o, t, hd, g, c, ht, hc, h1, h2, hd', hB, hR, hS⟩ := h
  exact hS
theorem FY.nothing {S : Nat → Prop} {w w' : World} {q p rq r F : Nat} {s u : PS} (h : FY S w q p rq r F s u) (k : Chg (fun _ => False) w w') : FY S w' q p rq r F s u := by
  obtain ⟨b, o, t, hd, g, c, ht, hc, h1, h2, hd', hB, hR, hS⟩ := h
  exact ⟨b, o, t, hd, g, c, ht, hc, h1.chg k (fun _ _ h => h), h2.chg k (fun _ _ h => h), hd', hB, hR, fun k' a => Nat.lt_of_lt_of_le (hS k' a) k.size⟩
theorem FY.weak {S S' : Nat → Prop} {w : World} {q p rq r F : Nat} {s u : PS} (h : FY S w q p rq r F s u) (hs : ∀ k, S' k → S k) : FY S' w q p rq r F s u := by
  obtain ⟨b, o, t, hd, g, c, ht, hc, h1, h2, hd', hB, hR, hS⟩ := h
  exact ⟨b, o, t, hd, g, c, ht, hc, h1, h2, hd', fun k a e => hB k a (hs k e), fun k a e => hR k a (hs k e), fun k a => hS k (hs k a)⟩
theorem FY.beside {S S' T : Nat → Prop} {w w' : World} {q p rq r F : Nat} {s u : PS} (h : FY S w q p rq r F s u) (k : Chg T w w') (hT : ∀ k, T k → S k) (hS' : ∀ k, S' k → S k ∨ w.heap.size ≤ k) (hlt : ∀ k, S' k → k < w'.heap.size) : FY S' w' q p rq r F s u := by
  obtain ⟨b, o, t, hd, g, c, ht, hc, h1, h2, hd', hB, hR, hS⟩ := h
  have l1 := h1.lt
  have l2 := h2.lt
  refine ⟨b, o, t, hd, g, c, ht, hc, h1.chg k (fun j a d => hB j a (hT j d)), h2.chg k (fun j a d => hR j a (hT j d)), hd', fun j a d => ?_, fun j a d => ?_, hlt⟩
  · rcases hS' j d with e | e
    · exact hB j a e
    · have := l1 j a; omega
  · rcases hS' j d with e | e
    · exact hR j a e
    · have := l2 j a; omega
/-- the program's side alone -/
theorem FY.L {S : Nat → Prop} {w : World} {q p rq r F : Nat} {s u : PS} (h : FY S w q p rq r F s u) :
    ∃ S' : Nat → Prop, (∀ k, S k → S' k) ∧ Pl S' w q p F 0 s.Fr s.V ∧ ∀ (w' : World) (s' : PS), Pl S' w' q p F 0 s'.Fr s'.V → Chg (fun k => ¬ S' k) w w' → FY S w' q p rq r F s' u := by
  obtain ⟨b, o, t, hd, g, c, ht, hc, h1, h2, hd', hB, hR, hS⟩ := h
  refine ⟨fun k => S k ∨ RpOwn rq hd r g k, fun k a => .inl a, ⟨b, o, t, ht, h1, fun k a e => ?_, fun k a => ?_⟩, fun w' s' hp k => ?_⟩
  · rcases e with e | e
    · exact hB k a e
    · exact hd' k a e
  · rcases a with a | a
    · exact hS k a
    · exact h2.lt k a
  · obtain ⟨b', o', t', ht', h1', hB', hS'⟩ := hp
    exact ⟨b', o', t', hd, g, c, ht', hc, h1', h2.chg k (fun j a d => d (.inr a)), fun j a e => hB' j a (.inr e), fun j a e => hB' j a (.inl e), hR, fun j a => hS' j (.inl a)⟩
/-- the document's side alone -/
theorem FY.R {S : Nat → Prop} {w : World} {q p rq r F : Nat} {s u : PS} (h : FY S w q p rq r F s u) :
    ∃ S' : Nat → Prop, (∀ k, S k → S' k) ∧ RQ S' w rq r F u.Fr u.V ∧ ∀ (w' : World) (u' : PS), RQ S' w' rq r F u'.Fr u'.V → Chg (fun k => ¬ S' k) w w' → FY S w' q p rq r F s u' := by
  obtain ⟨b, o, t, hd, g, c, ht, hc, h1, h2, hd', hB, hR, hS⟩ := h
  refine ⟨fun k => S k ∨ PoolOwn q b p o k, fun k a => .inl a, ⟨hd, g, c, hc, h2, fun k a e => ?_, fun k a => ?_⟩, fun w' u' hq k => ?_⟩
  · rcases e with e | e
    · exact hR k a e
    · exact hd' k e a
  · rcases a with a | a
    · exact hS k a
    · exact h1.lt k a
  · obtain ⟨hd2, g2, c2, hc2, h2', hR', hS'⟩ := hq
    exact ⟨b, o, t, hd2, g2, c2, ht, hc2, h1.chg k (fun j a d => d (.inr a)), h2', fun j a e => hR' j e (.inr a), hB, fun j a e => hR' j a (.inl e), fun j a => hS' j (.inl a)⟩
theorem FY.left {S : Nat → Prop} {w : World} {q p rq r F : Nat} {s s' u : PS} {P : Program} {f : FuncId} {args : Array Value} {v : Value} (h : FY S w q p rq r F s u) (c : ∀ S', Pl S' w q p F 0 s.Fr s.V → Calls P f args w (StepF S' w q p F 0 s'.Fr s'.V v)) : Calls P f args w (StepY2 S w q p rq r F s' u v) := by
  obtain ⟨S', hs, hy, back⟩ := h.L
  exact (c S' hy).mono fun _ w' ⟨h1, h2, h3⟩ => ⟨h1, back w' s' h2 h3, h3.mono fun k a b => a (hs k b)⟩
theorem FY.right {S : Nat → Prop} {w : World} {q p rq r F : Nat} {s u u' : PS} {P : Program} {f : FuncId} {args : Array Value} {v : Value} (h : FY S w q p rq r F s u) (c : ∀ S', RQ S' w rq r F u.Fr u.V → Calls P f args w (StepQ S' w rq r F u'.Fr u'.V v)) : Calls P f args w (StepY2 S w q p rq r F s u' v) := by
  obtain ⟨S', hs, hy, back⟩ := h.R
  exact (c S' hy).mono fun _ w' ⟨h1, h2, h3⟩ => ⟨h1, back w' u' h2 h3, h3.mono fun k a b => a (hs k b)⟩
/-- .. with an answer of which something is known -/
theorem FY.leftX {α : Type} {Q : α → Prop} {v : α → Value} {S : Nat → Prop} {w : World} {q p rq r F : Nat} {s u : PS} {P : Program} {f : FuncId} {args : Array Value} (h : FY S w q p rq r F s u) (c : ∀ S', Pl S' w q p F 0 s.Fr s.V → Calls P f args w (fun e w' => ∃ x, Q x ∧ StepF S' w q p F 0 s.Fr s.V (v x) e w')) : Calls P f args w (fun e w' => ∃ x, Q x ∧ StepY2 S w q p rq r F s u (v x) e w') := by
  obtain ⟨S', hs, hy, back⟩ := h.L
  exact (c S' hy).mono fun _ w' ⟨x, hx, h1, h2, h3⟩ => ⟨x, hx, h1, back w' s h2 h3, h3.mono fun k a b => a (hs k b)⟩
theorem FY.rightX {α : Type} {Q : α → Prop} {v : α → Value} {S : Nat → Prop} {w : World} {q p rq r F : Nat} {s u : PS} {P : Program} {f : FuncId} {args : Array Value} (h : FY S w q p rq r F s u) (c : ∀ S', RQ S' w rq r F u.Fr u.V → Calls P f args w (fun e w' => ∃ x, Q x ∧ StepQ S' w rq r F u.Fr u.V (v x) e w')) : Calls P f args w (fun e w' => ∃ x, Q x ∧ StepY2 S w q p rq r F s u (v x) e w') := by
  obtain ⟨S', hs, hy, back⟩ := h.R
  exact (c S' hy).mono fun _ w' ⟨x, hx, h1, h2, h3⟩ => ⟨x, hx, h1, back w' u h2 h3, h3.mono fun k a b => a (hs k b)⟩
/-- what Text answers is one -/
theorem TextR_one {V : Nat → Nat} {F root at_ most : Nat} {s s' : ByteArray} {e e' : Int} (h : TextR V F root at_ most s e) (h' : TextR V F root at_ most s' e') : s = s' ∧ e = e' := by
  obtain ⟨j, l, hj, ⟨ys, y1, y2, y3⟩, c⟩ := h
  obtain ⟨j', l', hj', ⟨ys', y1', y2', y3'⟩, c'⟩ := h'
  -- of two, the shorter one goes on
  have key : ∀ (j j' : Nat) (ys ys' : List Nat), adrs V F root at_ 1 j = some ys → adrs V F root at_ 1 j' = some ys' → (∀ y ∈ ys', V y ≠ 0) → j < j' → ∃ a, tbAt V F root ((at_ + j) % 18446744073709551616) 1 = some a ∧ V a ≠ 0 := by
    intro j j' ys ys' h1 h2 h3 hlt
    have hl := adrs_len j' ys' h2
    have hg := adrs_get j' ys' h2 j (by omega)
    exact ⟨_, hg, h3 _ (List.getElem_mem _)⟩
  have hjj : j = j' := by
    rcases Nat.lt_trichotomy j j' with hlt | he | hlt
    · obtain ⟨a, ha, hv⟩ := key j j' ys ys' y1 y1' y3' hlt
      rcases c with ⟨c, _⟩ | ⟨b, c, cv, _⟩ | ⟨b, c, cv, cm, _⟩
      · rw [ha] at c; cases c
      · rw [ha] at c; cases c; exact absurd cv hv
      · omega
    · exact he
    · obtain ⟨a, ha, hv⟩ := key j' j ys' ys y1' y1 y3 hlt
      rcases c' with ⟨c, _⟩ | ⟨b, c, cv, _⟩ | ⟨b, c, cv, cm, _⟩
      · rw [ha] at c; cases c
      · rw [ha] at c; cases c; exact absurd cv hv
      · omega
  subst hjj
  rw [y1] at y1'
  cases y1'
  have hll : l = l' := y2.trans y2'.symm
  subst hll
  rcases c with ⟨c, s1, e1⟩ | ⟨b, c, cv, s1, e1⟩ | ⟨b, c, cv, cm, s1, e1⟩ <;> rcases c' with ⟨d, s2, e2⟩ | ⟨b2, d, dv, s2, e2⟩ | ⟨b2, d, dv, dm, s2, e2⟩ <;> rw [c] at d <;> cases d
  · exact ⟨s1.trans s2.symm, e1.trans e2.symm⟩
  · exact ⟨s1.trans s2.symm, e1.trans e2.symm⟩
  · exact absurd cv dv
  · exact absurd dv cv
  · exact ⟨s1.trans s2.symm, e1.trans e2.symm⟩
end Go.Proofs.YtijooajhjcfneaaGreat

namespace Go.Proofs.YtijooajhjcfneaaGreat
open Go.RowKit

def tkB (F : Nat) (Fr : Nat → Bool) (root : Int) : Bool := decide (((0 : Nat) : Int) ≤ root ∧ root < (F : Int)) && !Fr root.toNat
/-- a root that is one, or none at all -/
def RootOk (F : Nat) (s : PS) (R : Roles) (root : Int) : Prop := (∃ n : Nat, root = (n : Int) ∧ R n = some (n, 3, 0)) ∨ tkB F s.Fr root = false
/-- both answer so, and both are so behind it -/
structure Alike (P : Program) (F : Nat) (s s' : PS) (f1 f2 : FuncId) (args : List Value) (v : Value) : Prop where
  l : ∀ (S : Nat → Prop) (W : World) (q p rq r : Nat) (u : PS), FY S W q p rq r F s u → Calls P f1 ((.pointer (some ⟨q, 0, none⟩)) :: args).toArray W (StepY2 S W q p rq r F s' u v)
  r : ∀ (S : Nat → Prop) (W : World) (q p rq r : Nat) (t : PS), FY S W q p rq r F t s → Calls P f2 ((.pointer (some ⟨rq, 0, none⟩)) :: args).toArray W (StepY2 S W q p rq r F t s' v)
theorem y_map {F : Nat} {s : PS} {R : Roles} (hF : F ≤ 256) (g : SG F s R) (root page : Int) (bits : Nat) (hb : bits < 18446744073709551616) (hr : RootOk F s R root) :
    ∃ s' e R', SG F s' R' ∧ (∀ f x, R f = some x → R' f = some x) ∧ Alike Tryz.prog F s s' 55 36 [.int .i64 root, .int .i64 page, .int .u64 bits] (.int .i64 e) := by
  rcases hr with ⟨n, rfl, hn⟩ | ht
  · obtain ⟨s', e, hs⟩ : ∃ s' e, mapR F s n page bits = (s', e) := ⟨_, _, rfl⟩
    obtain ⟨R', g', sub, _⟩ := good_mapR hF g hn hs
    exact ⟨s', e, R', g', sub, fun S W q p rq r u h => h.left fun S' hp => sp_map_any hp hF g.wf n page bits hn hb hs, fun S W q p rq r t h => h.right fun S' hq => q_map_any hq hF g.wf n page bits hn hs⟩
  · exact ⟨s, 1, R, g, fun _ _ h => h, fun S W q p rq r u h => h.left fun S' hp => sp_map_a hp hF root page bits hb ht, fun S W q p rq r t h => h.right fun S' hq => q_map_bad hq hF root page bits ht⟩
theorem inR_form (V : Nat → Nat) (o : Option (List Nat)) : ∃ t e, inR V o = .tuple #[.string t, .int .i64 e] := by
  cases o with
  | none => exact ⟨_, _, rfl⟩
  | some xs => exact ⟨_, _, rfl⟩
/-- Text: both answer something of which the same is known -/
structure AlikeX (P : Program) (F : Nat) (s : PS) (f1 f2 : FuncId) (args : List Value) (Q : ByteArray → Int → Prop) : Prop where
  l : ∀ (S : Nat → Prop) (W : World) (q p rq r : Nat) (u : PS), FY S W q p rq r F s u → Calls P f1 ((.pointer (some ⟨q, 0, none⟩)) :: args).toArray W fun e w' => ∃ x : ByteArray × Int, Q x.1 x.2 ∧ StepY2 S W q p rq r F s u (.tuple #[.string x.1, .int .i64 x.2]) e w'
  r : ∀ (S : Nat → Prop) (W : World) (q p rq r : Nat) (t : PS), FY S W q p rq r F t s → Calls P f2 ((.pointer (some ⟨rq, 0, none⟩)) :: args).toArray W fun e w' => ∃ x : ByteArray × Int, Q x.1 x.2 ∧ StepY2 S W q p rq r F t s (.tuple #[.string x.1, .int .i64 x.2]) e w'
  one : ∀ a b c d, Q a b → Q c d → a = c ∧ b = d
end Go.Proofs.YtijooajhjcfneaaGreat

namespace Go.Proofs.YtijooajhjcfneaaGreat
open Go.RowKit

/-- behind an act -/
def DoesR (S : Nat → Prop) (w : World) (q p rq r F : Nat) (R : Roles) (e : Ending) (w' : World) : Prop :=
  ∃ s' R', e = .returned (.bool true) ∧ FY S w' q p rq r F s' s' ∧ SG F s' R' ∧ (∀ f x, R f = some x → R' f = some x) ∧ Chg (fun k => ¬ S k) w w'
def actC (kd wh pg n : Int) (bits at_ : Nat) (str : ByteArray) : Array Value := #[.int .i64 kd, .int .i64 wh, .int .i64 pg, .int .i64 n, .int .u64 bits, .int .u64 at_, .string str]
theorem tl_self (s : ByteArray) : (s.toList == s.toList) = true := by simp
end Go.Proofs.YtijooajhjcfneaaGreat

namespace Go.Proofs.YtijooajhjcfneaaGreat
open Go.RowKit

theorem y_new {F : Nat} {s : PS} {R : Roles} (hF : F ≤ 256) (g : SG F s R) :
    ∃ s' R' k e, SG F s' R' ∧ (∀ f x, R f = some x → R' f = some x) ∧ ((e = 0 ∧ ∃ n : Nat, k = (n : Int) ∧ R n = none ∧ R' n = some (n, 3, 0)) ∨ (e = 4 ∧ k = 0)) ∧ Alike Tryz.prog F s s' 28 13 [] (.tuple #[.int .i64 k, .int .i64 e]) := by
  by_cases hc : 0 < s.left F
  · obtain ⟨g', r', sub⟩ := good_new g hc
    obtain ⟨_, hn, _, _⟩ := new_grow g.wf hc
    exact ⟨s.take F, _, _, 0, g', sub, .inl ⟨rfl, s.top F, rfl, hn, r'⟩, fun S W q p rq r u h => h.left fun S' hp => sp_new hp hF hc, fun S W q p rq r t h => h.right fun S' hq => q_take hq hF hc⟩
  · have hz : s.left F = 0 := by omega
    exact ⟨s, R, 0, 4, g, fun _ _ h => h, .inr ⟨rfl, rfl⟩, fun S W q p rq r u h => h.left fun S' hp => sp_new_full hp hF hz, fun S W q p rq r t h => h.right fun S' hq => q_take_none hq hF hz⟩
/-- roots that there are -/
structure RtsOk (R : Roles) (l : List Nat) : Prop where
  nodup : l.Nodup
  is : ∀ n ∈ l, R n = some (n, 3, 0)
theorem RtsOk.sub {R R' : Roles} {l : List Nat} (h : RtsOk R l) (s : ∀ f x, R f = some x → R' f = some x) : RtsOk R' l := ⟨h.nodup, fun n hn => s _ _ (h.is n hn)⟩
theorem RtsOk.add {R R' : Roles} {l : List Nat} {n : Nat} (h : RtsOk R l) (s : ∀ f x, R f = some x → R' f = some x) (hn : R n = none) (hn' : R' n = some (n, 3, 0)) : RtsOk R' (l ++ [n]) := by
  refine ⟨List.nodup_append.2 ⟨h.nodup, by simp, fun a ha b hb e => ?_⟩, fun m hm => ?_⟩
  · rw [List.mem_singleton.1 hb] at e
    subst e
    have := h.is a ha
    rw [hn] at this
    cases this
  · rcases List.mem_append.1 hm with hm | hm
    · exact s _ _ (h.is m hm)
    · rw [List.mem_singleton.1 hm]; exact hn'
theorem nodup_inj : ∀ {l : List Nat} (_ : l.Nodup) {i j : Nat} (hi : i < l.length) (hj : j < l.length), l[i] = l[j] → i = j
  | a :: l, h, 0, 0, _, _, _ => rfl
  | a :: l, h, 0, j + 1, _, hj, e => by
    have h2 := (List.nodup_cons.1 h).1
    exact absurd (show a ∈ l by
      have e' : a = l[j]'(by simpa using hj) := e
      rw [e']; exact List.getElem_mem _) h2
  | a :: l, h, i + 1, 0, hi, _, e => by
    have h2 := (List.nodup_cons.1 h).1
    exact absurd (show a ∈ l by
      have e' : l[i]'(by simpa using hi) = a := e
      rw [← e']; exact List.getElem_mem _) h2
  | a :: l, h, i + 1, j + 1, hi, hj, e => congrArg (· + 1) (nodup_inj (List.nodup_cons.1 h).2 (by simpa using hi) (by simpa using hj) e)
/-- the roots but for one -/
def restL (l : List Nat) (k : Nat) : Nat → List Nat
  | 0 => []
  | j + 1 => restL l k j ++ (if j = k then [] else [l.getD j 0])
theorem restL_mem {l : List Nat} {k x : Nat} : ∀ j, j ≤ l.length → (x ∈ restL l k j ↔ ∃ i, ∃ hi : i < l.length, i < j ∧ i ≠ k ∧ l[i] = x)
  | 0, _ => by
    constructor
    · intro h; cases h
    · rintro ⟨i, _, h, _⟩; omega
  | j + 1, hj => by
    show x ∈ restL l k j ++ (if j = k then [] else [l.getD j 0]) ↔ _
    have e : l.getD j 0 = l[j]'(by omega) := by rw [List.getD, List.getElem?_eq_getElem (by omega)]; rfl
    rw [List.mem_append, restL_mem j (by omega)]
    constructor
    · rintro (⟨i, hi, h1, h2, h3⟩ | h)
      · exact ⟨i, hi, by omega, h2, h3⟩
      · by_cases c : j = k
        · rw [if_pos c] at h; cases h
        · rw [if_neg c] at h
          exact ⟨j, by omega, by omega, c, by rw [List.mem_singleton.1 h, e]⟩
    · rintro ⟨i, hi, h1, h2, h3⟩
      by_cases c : i = j
      · subst c
        rw [if_neg h2]
        exact .inr (by rw [e, h3]; exact List.mem_singleton.2 rfl)
      · exact .inl ⟨i, hi, by omega, h2, h3⟩
theorem restL_nodup {l : List Nat} {k : Nat} (h : l.Nodup) : ∀ j, j ≤ l.length → (restL l k j).Nodup
  | 0, _ => List.nodup_nil
  | j + 1, hj => by
    show (restL l k j ++ (if j = k then [] else [l.getD j 0])).Nodup
    have e : l.getD j 0 = l[j]'(by omega) := by rw [List.getD, List.getElem?_eq_getElem (by omega)]; rfl
    by_cases c : j = k
    · rw [if_pos c, List.append_nil]; exact restL_nodup h j (by omega)
    · rw [if_neg c]
      refine List.nodup_append.2 ⟨restL_nodup h j (by omega), by simp, fun a ha b hb e2 => ?_⟩
      rw [List.mem_singleton.1 hb, e] at e2
      obtain ⟨i, hi, h1, _, h3⟩ := (restL_mem j (by omega)).1 ha
      rw [← h3] at e2
      have := nodup_inj h _ _ e2
      omega
theorem RtsOk.off {R R' : Roles} {l : List Nat} {k : Nat} (h : RtsOk R l) (hk : k < l.length) (s : ∀ f x, R f = some x → x.1 ≠ l[k] → R' f = some x) : RtsOk R' (restL l k l.length) := by
  refine ⟨restL_nodup h.nodup _ (Nat.le_refl _), fun n hn => ?_⟩
  obtain ⟨i, hi, _, h2, h3⟩ := (restL_mem l.length (Nat.le_refl _)).1 hn
  have hne : n ≠ l[k] := fun e => by
    rw [← h3] at e
    exact h2 (nodup_inj h.nodup _ _ e)
  exact s _ _ (h.is n (h3 ▸ List.getElem_mem hi)) hne
theorem restL_le (l : List Nat) (k : Nat) : ∀ j, (restL l k j).length ≤ j
  | 0 => Nat.le_refl _
  | j + 1 => by
    show (restL l k j ++ (if j = k then [] else [l.getD j 0])).length ≤ j + 1
    have := restL_le l k j
    rw [List.length_append]
    by_cases c : j = k
    · rw [if_pos c, List.length_nil]; omega
    · rw [if_neg c, List.length_singleton]; omega
end Go.Proofs.YtijooajhjcfneaaGreat

namespace Go.Proofs.YtijooajhjcfneaaGreat
open Go.RowKit

/-- a row that was made since B, beside both; the blocks of S are kept -/
structure RowY (S : Nat → Prop) (B : Nat) (ty : TypeId) (vs : List Value) (sv : Value) (q p rq r F : Nat) (s u : PS) (w0 w : World) : Prop where
  row : w.ownsRow B ty 1 sv vs.length vs
  y : FY (fun k => S k ∨ sv.ownBlock = some k) w q p rq r F s u
  chg : Chg (fun k => ¬ S k) w0 w
  le : w0.heap.size ≤ B
theorem RowY.nil {S : Nat → Prop} {ty : TypeId} {q p rq r F : Nat} {s u : PS} {w : World} (h : FY S w q p rq r F s u) : RowY S w.heap.size ty [] (.slice none 0 0) q p rq r F s u w w :=
  ⟨World.ownsRow_nil _ _ _ _, h.weak (fun k hk => by rcases hk with hk | hk; exact hk; cases hk), Chg.refl _ _, Nat.le_refl _⟩
theorem RowY.stepped {S : Nat → Prop} {B : Nat} {ty : TypeId} {vs : List Value} {sv v : Value} {q p rq r F : Nat} {s u s' u' : PS} {w0 w w' : World} {e : Ending} (h : RowY S B ty vs sv q p rq r F s u w0 w) (k : StepY2 (fun k => S k ∨ sv.ownBlock = some k) w q p rq r F s' u' v e w') : RowY S B ty vs sv q p rq r F s' u' w0 w' :=
  ⟨ownsRow_chg h.row k.2.2 (fun j hj a => a (.inr hj)), k.2.1, h.chg.trans (k.2.2.mono (fun j a b => a (.inl b))), h.le⟩
theorem RowY.nothing {S T : Nat → Prop} {B : Nat} {ty : TypeId} {vs : List Value} {sv : Value} {q p rq r F : Nat} {s u : PS} {w0 w w' : World} (h : RowY S B ty vs sv q p rq r F s u w0 w) (k : Chg T w w') (hT : ∀ k, ¬ T k) : RowY S B ty vs sv q p rq r F s u w0 w' :=
  ⟨ownsRow_chg h.row k (fun j _ a => hT j a), h.y.nothing (k.mono fun j a => (hT j a).elim), h.chg.trans (k.mono fun j a => (hT j a).elim), h.le⟩
theorem RowY.grown {S : Nat → Prop} {B : Nat} {ty T : TypeId} {vs ys : List Value} {sv v' : Value} {q p rq r F : Nat} {s u : PS} {w0 w w1 : World} {c : Array Value} {n : Nat} (h : RowY S B ty vs sv q p rq r F s u w0 w)
    (h1 : w1.ownsRow B ty 1 v' n ys) (hn : n = ys.length) (hg : (w.alloc (.cells c T)).grownBy w1 sv.ownBlock) (hat : v'.ownBlock = sv.ownBlock ∨ v'.ownBlock = some (w.alloc (.cells c T)).heap.size) : RowY S B ty ys v' q p rq r F s u w0 w1 := by
  have hc : Chg (fun k => sv.ownBlock = some k) w w1 := ((Chg.refl _ w).alloc _).grown hg (fun k hk => .inl hk)
  have hz : (w.alloc (.cells c T)).heap.size = w.heap.size + 1 := by simp
  subst hn
  refine ⟨h1, h.y.beside hc (fun k hk => .inr hk) (fun k hk => ?_) (fun k hk => ?_), h.chg.trans' hc (fun k hk => .inr (Nat.le_trans h.le (ownsRow_lt h.row k hk).1)), h.le⟩
  · rcases hk with hk | hk
    · exact .inl (.inl hk)
    · rcases hat with e | e
      · exact .inl (.inr (e ▸ hk))
      · rw [e, hz] at hk
        cases hk
        exact .inr (by omega)
  · rcases hk with hk | hk
    · exact Nat.lt_of_lt_of_le (h.y.lt k (.inl hk)) hc.size
    · exact (ownsRow_lt h1 k hk).2
/-- numbers in a row -/
def nI (xs : List Nat) : List Value := xs.map fun x => Value.int .i64 (x : Nat)
theorem nI_len (xs : List Nat) : (nI xs).length = xs.length := List.length_map _
theorem row_form {w : World} {B : Nat} {ty : TypeId} {sv : Value} {vs : List Value} (h : w.ownsRow B ty 1 sv vs.length vs) : ∃ a cap, sv = .slice a vs.length cap ∧ ∀ i (hi : i < vs.length), ∃ g, a = some ⟨g, 0, none⟩ ∧ sv.ownBlock = some g ∧ w.cell? ⟨g, i, none⟩ = some vs[i] := by
  obtain ⟨hl, ⟨h, h0⟩ | ⟨g, cap, cur, rfl, hb, hg, h1, h2, h3, h4⟩⟩ := h
  · exact ⟨none, 0, by rw [h, h0], fun i hi => by omega⟩
  · refine ⟨some ⟨g, 0, none⟩, cap, rfl, fun i hi => ⟨g, rfl, rfl, ?_⟩⟩
    have hB : Blk w g cur ty := hg
    rw [hB.cell i]
    have e : (cur.toList.take (vs.length * 1))[i]? = vs[i]? := by rw [h4]
    rw [List.getElem?_take_of_lt (by omega), List.getElem?_eq_getElem hi] at e
    simpa using e
theorem nI_form {w : World} {B : Nat} {ty : TypeId} {sv : Value} {xs : List Nat} (h : w.ownsRow B ty 1 sv (nI xs).length (nI xs)) : ∃ a cap, sv = .slice a xs.length cap ∧ ∀ i (_ : i < xs.length), ∃ g, a = some ⟨g, 0, none⟩ ∧ sv.ownBlock = some g ∧ w.cell? ⟨g, i, none⟩ = some (.int .i64 (xs.getD i 0 : Nat)) := by
  obtain ⟨a, cap, h1, h2⟩ := row_form h
  rw [nI_len] at h1
  refine ⟨a, cap, h1, fun i hi => ?_⟩
  obtain ⟨g, e1, e2, e3⟩ := h2 i (by rw [nI_len]; exact hi)
  refine ⟨g, e1, e2, ?_⟩
  have e : xs.getD i 0 = xs[i] := by rw [List.getD, List.getElem?_eq_getElem hi]; rfl
  rw [e3, e]
  simp [nI]
/-- the root that is meant -/
def whichV (xs : List Nat) (n : Int) : Int := if 0 ≤ n ∧ n < (xs.length : Int) then ((xs.getD n.toNat 0 : Nat) : Int) else n
theorem whichV_own (xs : List Nat) (n : Nat) (h : n < xs.length) : whichV xs (n : Int) = ((xs.getD n 0 : Nat) : Int) := by
  unfold whichV
  rw [if_pos ⟨by omega, by omega⟩, Int.toNat_natCast]
theorem whichV_not (xs : List Nat) (n : Int) (h : ¬ (0 ≤ n ∧ n < (xs.length : Int))) : whichV xs n = n := if_neg h
end Go.Proofs.YtijooajhjcfneaaGreat
