/-
  Several texts in one: FYBoth, FYPages.
-/
import Derived.Test.YtijooajhjcfneaaGreatG22
namespace Go.Proofs.YtijooajhjcfneaaGreat
open Go.RowKit

/-- so many frames there are then -/
def sizF (sz : Int) : Nat := if 1 ≤ sz ∧ sz ≤ 256 then sz.toNat else 24
theorem sizF_le (sz : Int) : 1 ≤ sizF sz ∧ sizF sz ≤ 256 := by
  unfold sizF
  by_cases c : 1 ≤ sz ∧ sz ≤ 256
  · rw [if_pos c]; omega
  · rw [if_neg c]; omega
/-- new pools -/
def ps0 (F : Nat) : PS := ⟨frAll 0 F, fun _ => 0⟩
def BothY (B F : Nat) (w : World) (e : Ending) (w' : World) : Prop :=
  ∃ q p rq r, e = .returned (.tuple #[.pointer (some ⟨p, 0, none⟩), .pointer (some ⟨q, 0, none⟩), .pointer (some ⟨rq, 0, none⟩)]) ∧ FY (fun k => k < B) w' q p rq r F (ps0 F) (ps0 F) ∧ Below B w w'
theorem FY.made {B : Nat} {w w1 w2 : World} {q p r g F u : Nat} {V U : Nat → Nat} (h : Pl (fun k => k < B) w q p F 0 (frAll 0 F) V) (hu : u < 18446744073709551616) (c1 : Chg (fun _ => False) w w1) (hr : w.heap.size ≤ r) (hg : w.heap.size ≤ g) (hB0 : B ≤ w.heap.size)
    (h2 : RPool w2 (w1.heap.size + 1) w1.heap.size r g F 0 (fun _ => false) U u) (c2 : Chg (fun _ => False) w1 w2) : FY (fun k => k < B) w2 q p (w1.heap.size + 1) r F ⟨frAll 0 F, V⟩ ⟨frAll 0 F, U⟩ := by
  rw [tkn_all 0 F] at h2
  obtain ⟨b, o, t, ht, hp, hB, hS⟩ := h
  have hl := hp.lt
  have s1 := c1.size
  have s2 := c2.size
  have c := c1.trans c2
  refine ⟨b, o, t, w1.heap.size, g, u, ht, hu, hp.chg c (fun _ _ h => h), h2, fun k a d => ?_, hB, fun k d e => ?_, fun k (e : k < B) => by omega⟩
  · have := hl k a
    rcases d with d | d | d | d <;> omega
  · have e' : k < B := e
    rcases d with d | d | d | d <;> omega
/-- how many are left, on both sides -/
theorem y_left {S : Nat → Prop} {w : World} {q p rq r F : Nat} {s u : PS} (h : FY S w q p rq r F s u) :
    Calls Tryz.prog 16 #[.pointer (some ⟨q, 0, none⟩)] w fun e w' => e = .returned (.int .i64 (s.left F : Nat)) ∧ w = w' := by
  obtain ⟨S', _, hp, _⟩ := h.L
  exact f_leftS hp
theorem y_leftR {S : Nat → Prop} {w : World} {q p rq r F : Nat} {s u : PS} (h : FY S w q p rq r F s u) (hF : F ≤ 256) :
    Calls Tryz.prog 17 #[.pointer (some ⟨rq, 0, none⟩)] w fun e w' => e = .returned (.int .i64 (u.left F : Nat)) ∧ w = w' := by
  obtain ⟨S', _, hq, _⟩ := h.R
  exact q_left hq hF
end Go.Proofs.YtijooajhjcfneaaGreat

namespace Go.Proofs.YtijooajhjcfneaaGreat
open Go.RowKit

/-- the program's side alone, with new blocks beside it -/
theorem FY.LX {S : Nat → Prop} {w : World} {q p rq r F : Nat} {s u : PS} (h : FY S w q p rq r F s u) :
    ∃ S' : Nat → Prop, (∀ k, S k → S' k) ∧ Pl S' w q p F 0 s.Fr s.V ∧ ∀ (T : Nat → Prop) (w' : World) (s' : PS), (∀ k, T k → w.heap.size ≤ k ∧ k < w'.heap.size) → Pl (fun k => S' k ∨ T k) w' q p F 0 s'.Fr s'.V → Chg (fun k => ¬ S' k) w w' → FY (fun k => S k ∨ T k) w' q p rq r F s' u := by
  obtain ⟨b, o, t, hd, g, c, ht, hc, h1, h2, hd', hB, hR, hS⟩ := h
  refine ⟨fun k => S k ∨ RpOwn rq hd r g k, fun k a => .inl a, ⟨b, o, t, ht, h1, fun k a e => ?_, fun k a => ?_⟩, fun T w' s' hT hp k => ?_⟩
  · rcases e with e | e
    · exact hB k a e
    · exact hd' k a e
  · rcases a with a | a
    · exact hS k a
    · exact h2.lt k a
  · obtain ⟨b', o', t', ht', h1', hB', hS'⟩ := hp
    refine ⟨b', o', t', hd, g, c, ht', hc, h1', h2.chg k (fun j a d => d (.inr a)), fun j a e => hB' j a (.inl (.inr e)), fun j a e => hB' j a (e.imp .inl id), fun j a e => ?_, fun j a => hS' j (a.imp .inl id)⟩
    rcases e with e | e
    · exact hR j a e
    · have := h2.lt j a; have := (hT j e).1; omega
/-- the document's side alone, with new blocks beside it -/
theorem FY.RX {S : Nat → Prop} {w : World} {q p rq r F : Nat} {s u : PS} (h : FY S w q p rq r F s u) :
    ∃ S' : Nat → Prop, (∀ k, S k → S' k) ∧ RQ S' w rq r F u.Fr u.V ∧ ∀ (T : Nat → Prop) (w' : World) (u' : PS), (∀ k, T k → w.heap.size ≤ k ∧ k < w'.heap.size) → RQ (fun k => S' k ∨ T k) w' rq r F u'.Fr u'.V → Chg (fun k => ¬ S' k) w w' → FY (fun k => S k ∨ T k) w' q p rq r F s u' := by
  obtain ⟨b, o, t, hd, g, c, ht, hc, h1, h2, hd', hB, hR, hS⟩ := h
  refine ⟨fun k => S k ∨ PoolOwn q b p o k, fun k a => .inl a, ⟨hd, g, c, hc, h2, fun k a e => ?_, fun k a => ?_⟩, fun T w' u' hT hq k => ?_⟩
  · rcases e with e | e
    · exact hR k a e
    · exact hd' k e a
  · rcases a with a | a
    · exact hS k a
    · exact h1.lt k a
  · obtain ⟨hd2, g2, c2, hc2, h2', hR', hS'⟩ := hq
    refine ⟨b, o, t, hd2, g2, c2, ht, hc2, h1.chg k (fun j a d => d (.inr a)), h2', fun j a e => hR' j e (.inl (.inr a)), fun j a e => ?_, fun j a e => hR' j a (e.imp .inl id), fun j a => hS' j (a.imp .inl id)⟩
    rcases e with e | e
    · exact hB j a e
    · have := h1.lt j a; have := (hT j e).1; omega
/-- numbers with a sign in a row -/
def nZ (l : List Int) : List Value := l.map (Value.int .i64)
theorem nZ_len (l : List Int) : (nZ l).length = l.length := List.length_map _
theorem y_pages {S : Nat → Prop} {w : World} {q p rq r F : Nat} {s u : PS} {R : Roles} (h : FY S w q p rq r F s u) (hF : F ≤ 256) (g : SG F s R) (root : Nat) (hr : R root = some (root, 3, 0)) :
    Calls Tryz.prog 24 #[.pointer (some ⟨q, 0, none⟩), .int .i64 root] w fun e w' => ∃ sv, e = .returned (.tuple #[sv, .int .i64 0]) ∧ RowY S w.heap.size 3 (nZ (pagesL s.V root)) sv q p rq r F s u w w' := by
  obtain ⟨S', hs, hp, back⟩ := h.LX
  refine (sp_pages hp hF g.wf root hr).mono ?_
  rintro e w' ⟨sv, rfl, hu, hp', hc⟩
  have hl := nZ_len (pagesL s.V root)
  refine ⟨sv, rfl, by rw [hl]; exact hu, back (fun k => sv.ownBlock = some k) w' s (fun k hk => ownsRow_lt hu k hk) hp' hc, hc.mono (fun k a b => a (hs k b)), Nat.le_refl _⟩
/-- the document's Pages -/
structure PagesY (S : Nat → Prop) (w0 : World) (L : List (Int × Nat)) (T : List Nat) (svl svt : Value) (q p rq r F : Nat) (s u : PS) (w : World) : Prop where
  l : w.ownsRow w0.heap.size 67 3 svl L.length (pgCs L)
  t : w.ownsRow w0.heap.size 3 1 svt (nI T).length (nI T)
  y : FY (fun k => S k ∨ svl.ownBlock = some k ∨ svt.ownBlock = some k) w q p rq r F s u
  chg : Chg (fun k => ¬ S k) w0 w
  dis : ∀ k, svl.ownBlock = some k → svt.ownBlock ≠ some k
theorem y_pagesR {S : Nat → Prop} {w : World} {q p rq r F : Nat} {s u : PS} {R : Roles} (h : FY S w q p rq r F s u) (hF : F ≤ 256) (g : SG F u R) (root : Nat) (hr : R root = some (root, 3, 0)) :
    Calls Tryz.prog 21 #[.pointer (some ⟨rq, 0, none⟩), .int .i64 root] w fun e w' => ∃ svl svt, e = .returned (.tuple #[svl, svt]) ∧ PagesY S w (pgV (visT u.V 2 root 0 32)) (tabT u.V 2 root 0 32) svl svt q p rq r F s u w' := by
  obtain ⟨S', hs, hq, back⟩ := h.RX
  refine (q_pages hq hF g.wf root hr).mono ?_
  rintro e w' ⟨svl, svt, rfl, hl, ht, hq', hc, hdis⟩
  have hn := nI_len (tabT u.V 2 root 0 32)
  refine ⟨svl, svt, rfl, hl, by rw [hn]; exact ht, back (fun k => svl.ownBlock = some k ∨ svt.ownBlock = some k) w' u (fun k hk => ?_) hq' hc, hc.mono (fun k a b => a (hs k b)), hdis⟩
  rcases hk with hk | hk
  · exact ownsRow_lt hl k hk
  · exact ownsRow_lt ht k hk
theorem pgs_pgV (l : List (Int × Nat)) : pgs l = (pgV l).map fun v => v.1 := by
  induction l with
  | nil => rfl
  | cons v l ih =>
    by_cases c : 0 ≤ v.1
    · rw [pgV_pos l c, List.map_cons, ← ih]
      unfold pgs
      rw [List.map_cons, List.filter_cons_of_pos (by simpa using c)]
    · rw [pgV_neg l (by omega), ← ih]
      unfold pgs
      rw [List.map_cons, List.filter_cons_of_neg (by simpa using c)]
/-- the cells of a row of pages -/
theorem pg_form {w : World} {B : Nat} {sv : Value} {L : List (Int × Nat)} (h : w.ownsRow B 67 3 sv L.length (pgCs L)) : ∃ a cap, sv = .slice a L.length cap ∧ ∀ i (hi : i < L.length), ∃ g, a = some ⟨g, 0, none⟩ ∧ sv.ownBlock = some g ∧ w.cell? ⟨g, i * 3, none⟩ = some (.int .i64 (L[i].1)) ∧ w.cell? ⟨g, i * 3 + 2, none⟩ = some (.int .i64 ((L[i].2 / 1024 : Nat) : Int)) := by
  obtain ⟨hl, ⟨h, h0⟩ | ⟨g, cap, cur, rfl, hb, hg, h1, h2, h3, h4⟩⟩ := h
  · exact ⟨none, 0, by rw [h, h0], fun i hi => by omega⟩
  · refine ⟨some ⟨g, 0, none⟩, cap, rfl, fun i hi => ⟨g, rfl, rfl, ?_⟩⟩
    have hB : Blk w g cur 67 := hg
    have key : ∀ (L : List (Int × Nat)) (i j : Nat) (hi : i < L.length) (hj : j < 3), (pgCs L)[i * 3 + j]? = (pgC L[i])[j]? := by
      intro L
      induction L with
      | nil => intro i j hi; cases hi
      | cons v L ih =>
        intro i j hi hj
        have e : pgCs (v :: L) = pgC v ++ pgCs L := by unfold pgCs; rw [List.flatMap_cons]
        have e3 : (pgC v).length = 3 := rfl
        rw [e]
        cases i with
        | zero =>
          rw [List.getElem?_append_left (by omega)]
          rw [show 0 * 3 + j = j from by omega]
          rfl
        | succ i =>
          rw [List.getElem?_append_right (by omega), show (i + 1) * 3 + j - (pgC v).length = i * 3 + j from by omega]
          exact ih i j (by simpa using hi) hj
    have e : ∀ j, j < 3 → cur[i * 3 + j]? = (pgC L[i])[j]? := fun j hj => by
      rw [← key L i j hi hj, ← h4, List.getElem?_take_of_lt (by omega)]
      simp
    exact ⟨by rw [hB.cell]; exact e 0 (by omega), by rw [hB.cell]; exact e 2 (by omega)⟩
theorem nZ_form {w : World} {B : Nat} {ty : TypeId} {sv : Value} {xs : List Int} (h : w.ownsRow B ty 1 sv (nZ xs).length (nZ xs)) : ∃ a cap, sv = .slice a xs.length cap ∧ ∀ i (_ : i < xs.length), ∃ g, a = some ⟨g, 0, none⟩ ∧ sv.ownBlock = some g ∧ w.cell? ⟨g, i, none⟩ = some (.int .i64 (xs.getD i 0)) := by
  obtain ⟨a, cap, h1, h2⟩ := row_form h
  rw [nZ_len] at h1
  refine ⟨a, cap, h1, fun i hi => ?_⟩
  obtain ⟨g, e1, e2, e3⟩ := h2 i (by rw [nZ_len]; exact hi)
  refine ⟨g, e1, e2, ?_⟩
  have e : xs.getD i 0 = xs[i] := by rw [List.getD, List.getElem?_eq_getElem hi]; rfl
  rw [e3, e]
  simp [nZ]
/-- all bytes of memory, on the program's side -/
theorem y_get {S : Nat → Prop} {w : World} {q p rq r F : Nat} {s u : PS} (h : FY S w q p rq r F s u) (hF : F ≤ 256) :
    Calls Tryz.prog 15 #[.pointer (some ⟨p, 0, none⟩), .int .u64 0, .int .i64 ((F * 256 : Nat) : Int)] w (StepY2 S w q p rq r F s u (.tuple #[.string (memStr s.V 0 (F * 256)), .int .i64 0])) := by
  have e : cdG F 0 ((F * 256 : Nat) : Int) = 0 := by unfold cdG; rw [if_neg (by omega), if_pos (by omega)]
  have e2 : gtS F s.V 0 ((F * 256 : Nat) : Int) = memStr s.V 0 (F * 256) := by unfold gtS; rw [if_pos e, show ((F * 256 : Nat) : Int).toNat = F * 256 from by omega]
  have c : ∀ S', Pl S' w q p F 0 s.Fr s.V → Calls Tryz.prog 15 #[.pointer (some ⟨p, 0, none⟩), .int .u64 0, .int .i64 ((F * 256 : Nat) : Int)] w (StepF S' w q p F 0 s.Fr s.V (.tuple #[.string (memStr s.V 0 (F * 256)), .int .i64 0])) := fun S' hp => by
    have k := f_get hp hF 0 (by omega) ((F * 256 : Nat) : Int) (by omega)
    rw [e, e2] at k
    exact k 0 rfl
  exact h.left c
/-- .. and on the document's -/
theorem FY.fields {S : Nat → Prop} {w : World} {q p rq r F : Nat} {s u : PS} (h : FY S w q p rq r F s u) :
    w.cell? ⟨rq, 0, none⟩ = some (.pointer (some ⟨r, 0, none⟩)) ∧ ∃ g, w.cell? ⟨r, 0, none⟩ = some (.slice (some ⟨g, 0, none⟩) (F * 256) (F * 256)) ∧ ∀ cap, (convert 51 9 (.slice (some ⟨g, 0, none⟩) (F * 256) cap)).run Tryz.prog w = .ok (.string (memStr u.V 0 (F * 256))) w := by
  obtain ⟨b, o, t, hd, g, c, ht, hu, h1, h2, hd', hB, hR, hS⟩ := h
  exact ⟨h2.blk.cellv 0 _ rfl, g, h2.mem.blk.cellv 0 _ rfl, fun cap => row_string w g (F * 256) u.V h2.mem.row 0 0 (F * 256) cap (fun _ => rfl) (by omega)⟩
end Go.Proofs.YtijooajhjcfneaaGreat
