/-
  Several texts in one: FYPlays.
-/
import Derived.Test.YtijooajhjcfneaaGreatG21
import Derived.Deep.MidRow
namespace Go.Proofs.YtijooajhjcfneaaGreat
open Go.RowKit

theorem own_mono {w : World} {B B' e sz n : Nat} {v : Value} {xs : List Value} (h : w.ownsRow B e sz v n xs) (hB : B' ≤ B) : w.ownsRow B' e sz v n xs := by
  obtain ⟨hl, h | ⟨g, cap, cur, rfl, hb, h⟩⟩ := h
  · exact ⟨hl, .inl h⟩
  · exact ⟨hl, .inr ⟨g, cap, cur, rfl, Nat.le_trans hB hb, h⟩⟩
/-- a row beside a row takes its place -/
theorem RowY.inner {S : Nat → Prop} {B B2 : Nat} {ty ty' : TypeId} {vs ys : List Value} {sv v' : Value} {q p rq r F : Nat} {s u s' u' : PS} {w0 w w' : World} (h : RowY S B ty vs sv q p rq r F s u w0 w) (k : RowY (fun k => S k ∨ sv.ownBlock = some k) B2 ty' ys v' q p rq r F s' u' w w') (hB : B ≤ B2) : RowY S B ty' ys v' q p rq r F s' u' w0 w' :=
  ⟨own_mono k.row hB, k.y.weak (fun j hj => hj.imp .inl id), h.chg.trans (k.chg.mono (fun j a b => a (.inl b))), h.le⟩
/-- .. or both stay -/
theorem RowY.outer {S : Nat → Prop} {B B2 : Nat} {ty ty' : TypeId} {vs ys : List Value} {sv v' : Value} {q p rq r F : Nat} {s u s' u' : PS} {w0 w w' : World} (h : RowY S B ty vs sv q p rq r F s u w0 w) (k : RowY (fun k => S k ∨ sv.ownBlock = some k) B2 ty' ys v' q p rq r F s' u' w w') : RowY S B ty vs sv q p rq r F s' u' w0 w' :=
  ⟨ownsRow_chg h.row k.chg (fun j hj a => a (.inr hj)), k.y.weak (fun j hj => .inl hj), h.chg.trans (k.chg.mono (fun j a b => a (.inl b))), h.le⟩
/-- the acts, in a block of S -/
def ActRow (S : Nat → Prop) (w : World) (a0 : Option Addr) (len : Nat) : Prop := len = 0 ∨ ∃ b off, a0 = some ⟨b, off, none⟩ ∧ S b ∧ b < w.heap.size ∧ ∀ i, i < len → ∃ (kd wh pg n : Int) (bits at_ : Nat) (str : ByteArray), bits < 18446744073709551616 ∧ w.rangeAt b (off + i * 7) (actC kd wh pg n bits at_ str).toList
/-- between the acts -/
structure PlaysI (S : Nat → Prop) (w0 : World) (q p rq r F : Nat) (rts : List Nat) (sv : Value) (s : PS) (R : Roles) (w : World) : Prop where
  r : RowY S w0.heap.size 3 (nI rts) sv q p rq r F s s w0 w
  g : SG F s R
  ok : RtsOk R rts
def PlaysR (S : Nat → Prop) (w0 : World) (q p rq r F len : Nat) (e : Ending) (w' : World) : Prop :=
  ∃ s R rts sv, e = .returned (.tuple #[sv, .bool true]) ∧ PlaysI S w0 q p rq r F rts sv s R w' ∧ rts.length ≤ len
theorem PlaysI.grown {S : Nat → Prop} {w0 : World} {q p rq r F : Nat} {rts : List Nat} {sv v' : Value} {s : PS} {R : Roles} {w w1 : World} {c : Array Value} {T : TypeId} {n x : Nat} (h : RowY S w0.heap.size 3 (nI rts) sv q p rq r F s s w0 w) (g : SG F s R) (ok : RtsOk R (rts ++ [x]))
    (h1 : w1.ownsRow w0.heap.size 3 1 v' n (nI rts ++ [.int .i64 (x : Nat)])) (hn : n = rts.length + 1) (hg : (w.alloc (.cells c T)).grownBy w1 sv.ownBlock) (hat : v'.ownBlock = sv.ownBlock ∨ v'.ownBlock = some (w.alloc (.cells c T)).heap.size) : PlaysI S w0 q p rq r F (rts ++ [x]) v' s R w1 := by
  refine ⟨?_, g, ok⟩
  have e : nI (rts ++ [x]) = nI rts ++ [.int .i64 (x : Nat)] := by simp [nI]
  rw [e]
  exact h.grown h1 (by rw [hn, List.length_append, nI_len]; rfl) hg hat

theorem nodup_bound : ∀ (n : Nat) (l : List Nat), l.Nodup → (∀ x ∈ l, x < n) → l.length ≤ n
  | 0, [], _, _ => Nat.le_refl _
  | 0, a :: l, _, h => absurd (h a (List.mem_cons_self ..)) (Nat.not_lt_zero _)
  | n + 1, l, hd, h => by
    by_cases c : n ∈ l
    · have h1 := nodup_bound n (l.erase n) (hd.erase n) (fun x hx => by
        have := (hd.mem_erase_iff).1 hx
        have := h x this.2
        omega)
      rw [List.length_erase_of_mem c] at h1
      omega
    · have h1 := nodup_bound n l hd (fun x hx => by
        have := h x hx
        have : x ≠ n := fun e => c (e ▸ hx)
        omega)
      omega
theorem RtsOk.small {F : Nat} {s : PS} {R : Roles} {l : List Nat} (h : RtsOk R l) (g : SG F s R) (hF : F ≤ 256) : l.length ≤ 256 :=
  Nat.le_trans (nodup_bound F l h.nodup (fun x hx => g.wf.lt _ _ (h.is x hx))) hF
theorem getD_getElem (l : List Nat) (i : Nat) (h : i < l.length) : l.getD i 0 = l[i] := by rw [List.getD, List.getElem?_eq_getElem h]; rfl
end Go.Proofs.YtijooajhjcfneaaGreat
