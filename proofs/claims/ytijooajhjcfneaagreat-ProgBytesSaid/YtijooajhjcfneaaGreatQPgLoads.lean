/-
  The walk of the statement ProgLoads: true, for every input.
-/
import Derived.Test.YtijooajhjcfneaaGreatQPgQLoad2
import Derived.Test.YtijooajhjcfneaaGreatQPgQLoad3
import Derived.Test.YtijooajhjcfneaaGreatQHartEq
import Derived.Test.YtijooajhjcfneaaGreatQPgShown
import Derived.Test.YtijooajhjcfneaaGreatG26
namespace Go.Proofs.YtijooajhjcfneaaGreat
open Go.RowKit

/-- frames taken, one by one -/
def tkNext (F : Nat) (s : PS) : PS := if 0 < s.left F then s.take F else s
def tkV (F : Nat) (s : PS) : Value := if 0 < s.left F then .tuple #[.int .i64 (s.top F : Nat), .int .i64 0] else .tuple #[.int .i64 0, .int .i64 4]
def tkS (F : Nat) : Nat → PS
  | 0 => ps0 F
  | n + 1 => tkNext F (tkS F n)
theorem tk_good (F : Nat) : ∀ n, ∃ R, SG F (tkS F n) R
  | 0 => ⟨_, good_start F _⟩
  | n + 1 => by
    obtain ⟨R, g⟩ := tk_good F n
    show ∃ R, SG F (tkNext F (tkS F n)) R
    unfold tkNext
    by_cases c : 0 < (tkS F n).left F
    · rw [if_pos c]; exact ⟨_, (good_new g c).1⟩
    · rw [if_neg c]; exact ⟨R, g⟩
theorem tk_p {S : Nat → Prop} {w : World} {q p F : Nat} {s : PS} (h : Pl S w q p F 0 s.Fr s.V) (hF : F ≤ 256) :
    Calls Tryz.prog 12 #[.pointer (some ⟨q, 0, none⟩)] w (StepF S w q p F 0 (tkNext F s).Fr (tkNext F s).V (tkV F s)) := by
  unfold tkNext tkV
  by_cases c : 0 < s.left F
  · rw [if_pos c, if_pos c]
    have hl : s.top F < F := lst_lt c
    exact f_take_some h hF (s.top F) (Nat.zero_le _) hl (lst_some s.Fr F hl) (fun g _ hg => lst_none s.Fr F g hg)
  · rw [if_neg c, if_neg c]
    exact f_take_none h hF (fun g _ hg => by have := cnt_none F (Nat.eq_zero_of_not_pos c) g hg; rwa [Nat.zero_add] at this)
theorem tk_q {S : Nat → Prop} {w : World} {rq r F : Nat} {s : PS} (h : RQ S w rq r F s.Fr s.V) (hF : F ≤ 256) :
    Calls Tryz.prog 13 #[.pointer (some ⟨rq, 0, none⟩)] w (StepQ S w rq r F (tkNext F s).Fr (tkNext F s).V (tkV F s)) := by
  unfold tkNext tkV
  by_cases c : 0 < s.left F
  · rw [if_pos c, if_pos c]; exact q_take h hF c
  · rw [if_neg c, if_neg c]; exact q_take_none h hF (Nat.eq_zero_of_not_pos c)
theorem hartC_cs (pc : Nat) : HartCs (hartC pc) := ⟨fun i hi => by
  match i, hi with
  | 0, _ => exact ⟨_, rfl⟩
  | 1, _ => exact ⟨_, rfl⟩
  | 2, _ => exact ⟨_, rfl⟩
  | 3, _ => exact ⟨_, rfl⟩
  | 4, _ => exact ⟨_, rfl⟩
  | 5, _ => exact ⟨_, rfl⟩
  | 6, _ => exact ⟨_, rfl⟩
  | 7, _ => exact ⟨_, rfl⟩
  | 8, _ => exact ⟨_, rfl⟩
  | 9, _ => exact ⟨_, rfl⟩
  | 10, _ => exact ⟨_, rfl⟩
  | 11, _ => exact ⟨_, rfl⟩
  | 12, _ => exact ⟨_, rfl⟩
  | 13, _ => exact ⟨_, rfl⟩
  | 14, _ => exact ⟨_, rfl⟩
  | 15, _ => exact ⟨_, rfl⟩
  | 16, _ => exact ⟨_, rfl⟩
  | 17, _ => exact ⟨_, rfl⟩
  | 18, _ => exact ⟨_, rfl⟩
  | 19, _ => exact ⟨_, rfl⟩
  | 20, _ => exact ⟨_, rfl⟩
  | 21, _ => exact ⟨_, rfl⟩
  | 22, _ => exact ⟨_, rfl⟩
  | 23, _ => exact ⟨_, rfl⟩
  | 24, _ => exact ⟨_, rfl⟩
  | 25, _ => exact ⟨_, rfl⟩
  | 26, _ => exact ⟨_, rfl⟩
  | 27, _ => exact ⟨_, rfl⟩
  | 28, _ => exact ⟨_, rfl⟩
  | 29, _ => exact ⟨_, rfl⟩
  | 30, _ => exact ⟨_, rfl⟩
  | 31, _ => exact ⟨_, rfl⟩
  | i + 32, h => omega, ⟨_, rfl⟩, ⟨_, rfl⟩, ⟨_, rfl⟩⟩
theorem hart0_cs : HartCs hart0 := ⟨fun i hi => by
  match i, hi with
  | 0, _ => exact ⟨_, rfl⟩
  | 1, _ => exact ⟨_, rfl⟩
  | 2, _ => exact ⟨_, rfl⟩
  | 3, _ => exact ⟨_, rfl⟩
  | 4, _ => exact ⟨_, rfl⟩
  | 5, _ => exact ⟨_, rfl⟩
  | 6, _ => exact ⟨_, rfl⟩
  | 7, _ => exact ⟨_, rfl⟩
  | 8, _ => exact ⟨_, rfl⟩
  | 9, _ => exact ⟨_, rfl⟩
  | 10, _ => exact ⟨_, rfl⟩
  | 11, _ => exact ⟨_, rfl⟩
  | 12, _ => exact ⟨_, rfl⟩
  | 13, _ => exact ⟨_, rfl⟩
  | 14, _ => exact ⟨_, rfl⟩
  | 15, _ => exact ⟨_, rfl⟩
  | 16, _ => exact ⟨_, rfl⟩
  | 17, _ => exact ⟨_, rfl⟩
  | 18, _ => exact ⟨_, rfl⟩
  | 19, _ => exact ⟨_, rfl⟩
  | 20, _ => exact ⟨_, rfl⟩
  | 21, _ => exact ⟨_, rfl⟩
  | 22, _ => exact ⟨_, rfl⟩
  | 23, _ => exact ⟨_, rfl⟩
  | 24, _ => exact ⟨_, rfl⟩
  | 25, _ => exact ⟨_, rfl⟩
  | 26, _ => exact ⟨_, rfl⟩
  | 27, _ => exact ⟨_, rfl⟩
  | 28, _ => exact ⟨_, rfl⟩
  | 29, _ => exact ⟨_, rfl⟩
  | 30, _ => exact ⟨_, rfl⟩
  | 31, _ => exact ⟨_, rfl⟩
  | i + 32, h => omega, ⟨_, rfl⟩, ⟨_, rfl⟩, ⟨_, rfl⟩⟩
/-- what both sides answer -/
structure LdP (x : Prg) (F : Nat) (s s' : PS) (root : Int) (hc : Array Value) (br e : Int) : Prop where
  pl : ∀ S W q p, Pl S W q p F 0 s.Fr s.V → Calls Tryz.prog 7 #[.pointer (some ⟨q, 0, none⟩), x.val] W (StepF S W q p F 0 s'.Fr s'.V (.tuple #[.int .i64 root, .agg hc, .int .u64 br, .int .i64 e]))
  ql : ∀ S W rq r, RQ S W rq r F s.Fr s.V → Calls Tryz.prog 14 #[.pointer (some ⟨rq, 0, none⟩), x.val] W (StepQ S W rq r F s'.Fr s'.V (.tuple #[.int .i64 root, .agg hc, .int .u64 br, .int .i64 e]))
  cs : HartCs hc
  size : hc.size = 35
  one : hc.all (·.oneCell') = true
theorem LdP.of {x : Prg} {F : Nat} {s : PS} {R : Roles} (hF : F ≤ 256) (g : SG F s R) (hsm : x.Small) : ∃ s' root hc br e, LdP x F s s' root hc br e := by
  cases hx : x.may with
  | false =>
    refine ⟨s, 0, hart0, 0, 6, fun S W q p H => ?_, fun S W rq r H => ?_, hart0_cs, rfl, by as_aux_lemma => kernel_rfl⟩
    · exact (p_load_form W q x hsm hx).mono fun _ _ ⟨h1, c⟩ => ⟨h1, H.nothing c, c.mono fun _ a => a.elim⟩
    · exact (q_load12_form W rq x hsm hx).mono fun _ _ ⟨h1, c⟩ => ⟨h1, H.nothing c, c.mono fun _ a => a.elim⟩
  | true =>
    obtain ⟨a, ha⟩ : ∃ a, a = pagesN x.text.size := ⟨_, rfl⟩
    obtain ⟨b, hb⟩ : ∃ b, b = pagesN (x.data.size + x.bss.toNat) := ⟨_, rfl⟩
    obtain ⟨m, hm⟩ : ∃ m, m = a + b := ⟨_, rfl⟩
    by_cases hl : m + 12 ≤ s.left F
    · refine ⟨loadS F s x a b, (s.top F : Nat), hartC (256 + x.entry.toNat), ((256 * (1 + a) + x.data.size + x.bss.toNat : Nat) : Int), 0, fun S W q p H => ?_, fun S W rq r H => ?_, hartC_cs _, rfl, by as_aux_lemma => kernel_rfl⟩
      · exact (p_load_yes hF H g hsm hx ha hb hm hl rfl).mono fun _ _ ⟨h1, h2⟩ => ⟨h1, h2.pl, h2.chg⟩
      · exact q_load12 hF H g hsm hx ha hb hm hl rfl
    · refine ⟨s, 0, hart0, 0, 4, fun S W q p H => ?_, fun S W rq r H => ?_, hart0_cs, rfl, by as_aux_lemma => kernel_rfl⟩
      · exact (p_load_full H hsm hx ha hb hm (by omega)).mono fun _ _ ⟨h1, c⟩ => ⟨h1, H.nothing c, c.mono fun _ a => a.elim⟩
      · exact (q_load12_full hF H hsm hx ha hb hm (by omega)).mono fun _ _ ⟨h1, c⟩ => ⟨h1, H.nothing c, c.mono fun _ a => a.elim⟩
theorem FY.boxed {S : Nat → Prop} {w w' : World} {q p rq r F : Nat} {s u : PS} (h : FY S w q p rq r F s u) (c : Chg (fun _ => False) w w') (hz : w.heap.size < w'.heap.size) : FY (fun k => S k ∨ k = w.heap.size) w' q p rq r F s u :=
  h.beside c (fun _ h => h.elim) (fun k hk => hk.imp id (fun e => by omega)) (fun k hk => by rcases hk with hk | rfl; (have := h.lt k hk; omega); exact hz)
end Go.Proofs.YtijooajhjcfneaaGreat
