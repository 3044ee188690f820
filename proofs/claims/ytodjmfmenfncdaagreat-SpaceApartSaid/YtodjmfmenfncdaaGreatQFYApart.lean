/-
  SpaceApart: which frames were had; rows beside both pools.
-/
import Derived.Test.YtodjmfmenfncdaaGreatQFYAll
namespace Go.Proofs.YtodjmfmenfncdaaGreat
open Go.RowKit

/-- what is put into one space, and what the others show -/
theorem y_outX {F : Nat} {s : PS} {R : Roles} (hF : F ≤ 256) (g : SG F s R) (root : Nat) (hr : R root = some (root, 3, 0)) (at_ : Nat) (b : ByteArray) :
    ∃ s' e, SG F s' R ∧ (∀ x, R x = some (x, 3, 0) → x ≠ root → allL s'.V F x (pagesL s'.V x) = allL s.V F x (pagesL s.V x)) ∧
      ∀ (S : Nat → Prop) (W : World) (q p rq r : Nat) (u : PS), FY S W q p rq r F s u → Calls Tryz.prog 17 #[.pointer (some ⟨q, 0, none⟩), .int .i64 root, .int .u64 at_, .string b] W (StepY2 S W q p rq r F s' u (.int .i64 e)) := by
  have htk : tkB F s.Fr (root : Int) = true := g.wf.taken hr
  by_cases c : 4096 < b.size
  · exact ⟨s, 1, g, fun _ _ _ => rfl, fun S W q p rq r u h => h.left fun S' hp => sp_out_long hp hF root at_ b c htk⟩
  · cases ha : adrs s.V F root at_ 2 b.size with
    | none => exact ⟨s, 3, g, fun _ _ _ => rfl, fun S W q p rq r u h => h.left fun S' hp => sp_out_no hp hF g.wf root hr at_ b (by omega) ha⟩
    | some ys => exact ⟨⟨s.Fr, outV s.V ys b b.size⟩, 0, good_out g hr b ha, fun x hx hne => all_out g.wf b hr hx hne ha, fun S W q p rq r u h => h.left (s' := ⟨s.Fr, outV s.V ys b b.size⟩) fun S' hp => sp_out_yes hp hF g.wf root hr at_ b (by omega) ys ha⟩
/-- the list of tables grows -/
theorem PagesY.grown {S : Nat → Prop} {w0 w w1 : World} {L : List (Int × Nat)} {T : List Nat} {svl svt v' : Value} {q p rq r F x TT : Nat} {s u : PS} {c : Array Value} (h : PagesY S w0 L T svl svt q p rq r F s u w)
    (h1 : w1.ownsRow w0.heap.size 3 1 v' (T.length + 1) (nI T ++ [.int .i64 (x : Nat)])) (hg : (w.alloc (.cells c TT)).grownBy w1 svt.ownBlock) (hat : v'.ownBlock = svt.ownBlock ∨ v'.ownBlock = some (w.alloc (.cells c TT)).heap.size) :
    PagesY S w0 L (T ++ [x]) svl v' q p rq r F s u w1 := by
  have hc : Chg (fun k => svt.ownBlock = some k) w w1 := ((Chg.refl _ w).alloc _).grown hg (fun k hk => .inl hk)
  have hz : (w.alloc (.cells c TT)).heap.size = w.heap.size + 1 := by simp
  have hnew : ∀ k, v'.ownBlock = some k → svt.ownBlock = some k ∨ w.heap.size ≤ k := fun k hk => by
    rcases hat with e | e
    · exact .inl (e ▸ hk)
    · rw [e, hz] at hk
      cases hk
      exact .inr (by omega)
  refine ⟨ownsRow_chg h.l hc (fun k hk e => h.dis k hk e), ?_, h.y.beside hc (fun k hk => .inr (.inr hk)) (fun k hk => ?_) (fun k hk => ?_), h.chg.trans' hc (fun k hk => .inr (ownsRow_lt h.t k hk).1), fun k hk hk2 => ?_⟩
  · have e : nI (T ++ [x]) = nI T ++ [.int .i64 (x : Nat)] := by simp [nI]
    rw [e, List.length_append, nI_len]; exact h1
  · rcases hk with hk | hk | hk
    · exact .inl (.inl hk)
    · exact .inl (.inr (.inl hk))
    · exact (hnew k hk).imp (fun e => .inr (.inr e)) id
  · rcases hk with hk | hk | hk
    · exact Nat.lt_of_lt_of_le (h.y.lt k (.inl hk)) hc.size
    · exact Nat.lt_of_lt_of_le (ownsRow_lt h.l k hk).2 hc.size
    · exact (ownsRow_lt h1 k hk).2
  · rcases hnew k hk2 with e | e
    · exact h.dis k hk e
    · have := (ownsRow_lt h.l k hk).2; omega
/-- between the roots: the roots' row, the row of what was had, both pools -/
structure ApI (B q p rq r hd : Nat) (rts : List Nat) (sv : Value) (s : PS) (D : List Nat) (w W : World) : Prop where
  row : ∃ B', W.ownsRow B' 3 1 sv (nI rts).length (nI rts)
  y : FY (fun k => (k < B ∨ sv.ownBlock = some k) ∨ k = hd) W q p rq r 40 s s
  had : Had W hd 40 (fun x => decide (x ∈ D))
  bel : Below B w W
  ne : sv.ownBlock ≠ some hd
  le : B ≤ hd
  sz : B ≤ w.heap.size
theorem ApI.cell {B q p rq r hd : Nat} {rts : List Nat} {sv : Value} {s : PS} {D : List Nat} {w W : World} (h : ApI B q p rq r hd rts sv s D w W) : ∃ a cap, sv = .slice a rts.length cap ∧ ∀ i (_ : i < rts.length), ∃ g, a = some ⟨g, 0, none⟩ ∧ W.cell? ⟨g, i, none⟩ = some (.int .i64 (rts.getD i 0 : Nat)) := by
  obtain ⟨B', h1⟩ := h.row
  obtain ⟨a, cap, h2, h3⟩ := nI_form h1
  exact ⟨a, cap, h2, fun i hi => by obtain ⟨g, a1, _, a2⟩ := h3 i hi; exact ⟨g, a1, a2⟩⟩
theorem below_sz {B : Nat} {w W : World} (h : Below B w W) (hs : B ≤ w.heap.size) : B ≤ W.heap.size := Nat.le_trans hs h.size
/-- what leaves all these blocks as they are -/
theorem ApI.kept {B q p rq r hd : Nat} {rts : List Nat} {sv : Value} {s : PS} {D : List Nat} {w W W' : World} (h : ApI B q p rq r hd rts sv s D w W) (hy : FY (fun k => (k < B ∨ sv.ownBlock = some k) ∨ k = hd) W' q p rq r 40 s s) (hc : Chg (fun k => ¬ ((k < B ∨ sv.ownBlock = some k) ∨ k = hd)) W W') : ApI B q p rq r hd rts sv s D w W' := by
  obtain ⟨B', h1⟩ := h.row
  exact ⟨⟨B', ownsRow_chg h1 hc (fun k hk a => a (.inl (.inr hk)))⟩, hy, h.had.chg hc (fun a => a (.inr rfl)), h.bel.trans (hc.below (below_sz h.bel h.sz) (fun k hk => Nat.le_of_not_lt (fun a => hk (.inl (.inl a))))), h.ne, h.le, h.sz⟩
/-- between the frames of one root -/
structure MarkI (B q p rq r hd : Nat) (rts : List Nat) (sv svt : Value) (s : PS) (T D : List Nat) (w W : World) : Prop where
  i : ApI B q p rq r hd rts sv s D w W
  t : ∃ B', W.ownsRow B' 3 1 svt (nI T).length (nI T)
  net : svt.ownBlock ≠ some hd
theorem MarkI.cell {B q p rq r hd : Nat} {rts : List Nat} {sv svt : Value} {s : PS} {T D : List Nat} {w W : World} (h : MarkI B q p rq r hd rts sv svt s T D w W) : ∃ a cap, svt = .slice a T.length cap ∧ ∀ i (_ : i < T.length), ∃ g, a = some ⟨g, 0, none⟩ ∧ W.cell? ⟨g, i, none⟩ = some (.int .i64 (T.getD i 0 : Nat)) := by
  obtain ⟨B', h1⟩ := h.t
  obtain ⟨a, cap, h2, h3⟩ := nI_form h1
  exact ⟨a, cap, h2, fun i hi => by obtain ⟨g, a1, _, a2⟩ := h3 i hi; exact ⟨g, a1, a2⟩⟩
theorem MarkI.made {B q p rq r hd : Nat} {rts : List Nat} {sv svl svt : Value} {s : PS} {L : List (Int × Nat)} {T D : List Nat} {w W W' : World} (h : ApI B q p rq r hd rts sv s D w W) (k : PagesY (fun k => (k < B ∨ sv.ownBlock = some k) ∨ k = hd) W L T svl svt q p rq r 40 s s W') : MarkI B q p rq r hd rts sv svt s T D w W' := by
  refine ⟨h.kept (k.y.weak (fun j a => .inl a)) k.chg, ⟨_, k.t⟩, fun e => ?_⟩
  have h1 := (ownsRow_lt k.t hd e).1
  have h2 := h.y.lt hd (.inr rfl)
  omega
theorem MarkI.set {B q p rq r hd x : Nat} {rts : List Nat} {sv svt : Value} {s : PS} {T D : List Nat} {w W : World} (h : MarkI B q p rq r hd rts sv svt s T D w W) (hx : x < 40) : MarkI B q p rq r hd rts sv svt s T (D ++ [x]) w (W.setCell ⟨hd, x, none⟩ (.bool true)) := by
  have hc : Chg (fun k => k = hd) W (W.setCell ⟨hd, x, none⟩ (.bool true)) := (Chg.refl _ W).setCell _ _ (.inl rfl)
  obtain ⟨B', h1⟩ := h.i.row
  obtain ⟨B2, h2⟩ := h.t
  refine ⟨⟨⟨B', ownsRow_chg h1 hc (fun k hk a => h.i.ne (a ▸ hk))⟩, h.i.y.beside hc (fun k hk => .inr hk) (fun k hk => .inl hk) (fun k hk => Nat.lt_of_lt_of_le (h.i.y.lt k hk) hc.size), (h.i.had.set hx true).congr (fun i hi => ?_), h.i.bel.trans (hc.below (below_sz h.i.bel h.i.sz) (fun k hk => hk ▸ h.i.le)), h.i.ne, h.i.le, h.i.sz⟩, ⟨B2, ownsRow_chg h2 hc (fun k hk a => h.net (a ▸ hk))⟩, h.net⟩
  unfold setF
  by_cases e : i = x
  · rw [if_pos e, e]
    exact (decide_eq_true (List.mem_append_right _ (List.mem_singleton.2 rfl))).symm
  · rw [if_neg e]
    have h3 : i ∈ D ++ [x] ↔ i ∈ D := by
      rw [List.mem_append, List.mem_singleton]
      exact ⟨fun a => a.resolve_right e, .inl⟩
    simp only [h3]
theorem MarkI.nothing {B q p rq r hd : Nat} {rts : List Nat} {sv svt : Value} {s : PS} {T D : List Nat} {w W W' : World} (h : MarkI B q p rq r hd rts sv svt s T D w W) (c : Chg (fun _ => False) W W') : MarkI B q p rq r hd rts sv svt s T D w W' := by
  obtain ⟨B2, h2⟩ := h.t
  exact ⟨h.i.kept (h.i.y.nothing c) (c.mono fun _ a => a.elim), ⟨B2, ownsRow_chg h2 c (fun _ _ a => a)⟩, h.net⟩
/-- what was had is laid beside both pools -/
theorem ApI.start {B q p rq r : Nat} {rts : List Nat} {sv : Value} {s : PS} {w0 w W : World} (h : RowY (fun k => k < B) w0.heap.size 3 (nI rts) sv q p rq r 40 s s w0 W) (hb : Below B w W) (hs : B ≤ w.heap.size) : ApI B q p rq r W.heap.size rts sv s [] w (W.alloc (.cells (falses 40) BoT)) := by
  have c : Chg (fun _ => False) W (W.alloc (.cells (falses 40) BoT)) := (Chg.refl _ W).alloc _
  have hsz : (W.alloc (.cells (falses 40) BoT)).heap.size = W.heap.size + 1 := by simp
  refine ⟨⟨_, ownsRow_chg h.row c (fun _ _ a => a)⟩, h.y.beside c (fun _ a => a.elim) (fun k hk => hk.imp id (fun e => by omega)) (fun k hk => ?_), ⟨falses 40, Blk.new W _ _, by simp [falses, madeCells], fun i hi => by rw [falses_get 40 i hi]; rfl⟩, hb.trans (c.below (below_sz hb hs) (fun _ a => a.elim)), fun e => ?_, below_sz hb hs, hs⟩
  · rcases hk with hk | hk
    · exact Nat.lt_of_lt_of_le (h.y.lt k hk) c.size
    · omega
  · have := (ownsRow_lt h.row _ e).2; omega
end Go.Proofs.YtodjmfmenfncdaaGreat
