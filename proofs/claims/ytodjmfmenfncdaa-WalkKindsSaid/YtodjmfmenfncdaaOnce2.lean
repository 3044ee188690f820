/-
  sync.Once in one goroutine, whatever closure, of which only a relation is known.
-/
import Derived.Test.YtodjmfmenfncdaaOnceB
namespace Go.Proofs.Ytodjmfmenfncdaa

structure OnceIn (b off : Nat) (W2 : World) : Prop where
  g0 : W2.cell? ⟨b, off, none⟩ = some (.int .u32 0)
  g1 : W2.cell? ⟨b, off + 1, none⟩ = some (.int .i32 1)
  e0 : W2.frozen? ⟨b, off, none⟩ = false
  e1 : W2.frozen? ⟨b, off + 1, none⟩ = false

def OnceOut (b off : Nat) (R : World → Prop) (w' : World) : Prop := ∃ W2, R W2 ∧ w' = (W2.drew.setCell ⟨b, off, none⟩ (.int .u32 1)).setCell ⟨b, off + 1, none⟩ (.int .i32 0)

set_option maxRecDepth 100000 in
set_option maxHeartbeats 1600000 in
theorem sy_slowR (b off : Nat) (F : FuncId) (pl : Addr) (w : World) (R : World → Prop)
    (hcf : ∀ w : World, (callFunc F #[.pointer (some pl)]).run Try.prog w = .ok (.enter F #[.pointer (some pl)]) w)
    (hF : Calls Try.prog F #[.pointer (some pl)] (w.setCell ⟨b, off + 1, none⟩ (.int .i32 1)) fun e w' => e = .returned (.tuple #[]) ∧ R w')
    (h0 : w.cell? ⟨b, off, none⟩ = some (.int .u32 0)) (h1 : w.cell? ⟨b, off + 1, none⟩ = some (.int .i32 0))
    (f1 : w.frozen? ⟨b, off + 1, none⟩ = false)
    (hR : ∀ W2, R W2 → OnceIn b off W2) :
    Calls Try.prog 85 #[.pointer (some ⟨b, off, none⟩), .func (.func F) #[] #[.pointer (some pl)]] w fun e w' => e = .returned (.tuple #[]) ∧ OnceOut b off R w' := by
  have hl := run_call_load (P := Try.prog) Try.func86 (by kernel_rfl) (by kernel_rfl) (by kernel_rfl) .u32 (by kernel_rfl) (w := w.setCell ⟨b, off + 1, none⟩ (.int .i32 1)) (a := ⟨b, off, none⟩) (x := 0) ((World.cell?_setCell_other _ ⟨b, off + 1, none⟩ ⟨b, off, none⟩ _ (by simp)).trans h0)
  have hnot : ∀ (x : Bool) (w : World), (Op.unary .not (.bool x)).run Try.prog w = .ok (.bool (!x)) w := fun _ _ => rfl
  go_enter_defers Try.func85, Try.ntmps85
  go_wp2_with (first | (go_at_call 87; refine (sy_lock_free ⟨b, off + 1, none⟩ _ (by go_simp) (by go_simp)).mono ?_; rintro e w' ⟨rfl, rfl⟩) | (go_at_call 84; go_in))
  refine hF.mono ?_
  rintro e W2 ⟨rfl, hr⟩
  have hI := hR W2 hr
  go_wp2
  refine leaves_cons (f := 89) (args := #[.pointer (some ⟨b, off, none⟩), .bool true]) (by simp) (by simp [go_sem]) ?_
  refine (sy_store_deferred ⟨b, off, none⟩ (.int .u32 0) .returning _ hI.g0 hI.e0).mono ?_
  rintro e u' w'' ⟨rfl, rfl, rfl⟩
  refine leaves_cons (f := 88) (args := #[.pointer (some ⟨b, off + 1, none⟩)]) (by simp [settle]) (by simp [go_sem]) ?_
  refine (sy_unlock_deferred ⟨b, off + 1, none⟩ _ _ ?_ (by simp [hI.e1])).mono ?_
  · refine (World.cell?_setCell_other _ ⟨b, off, none⟩ ⟨b, off + 1, none⟩ _ (by simp)).trans ?_
    rw [World.cell?_drew]
    exact hI.g1
  rintro e u' w'' ⟨rfl, rfl, rfl⟩
  have hO : OnceOut b off R ((W2.drew.setCell ⟨b, off, none⟩ (.int .u32 1)).setCell ⟨b, off + 1, none⟩ (.int .i32 0)) := ⟨W2, hr, rfl⟩
  generalize (W2.drew.setCell ⟨b, off, none⟩ (.int .u32 1)).setCell ⟨b, off + 1, none⟩ (.int .i32 0) = W3 at *
  simp [Leaves, settle, results, Try.results85]
  exact hO

set_option maxRecDepth 100000 in
set_option maxHeartbeats 1600000 in
theorem sy_do_firstR (b off : Nat) (F : FuncId) (pl : Addr) (w : World) (R : World → Prop)
    (hcf : ∀ w : World, (callFunc F #[.pointer (some pl)]).run Try.prog w = .ok (.enter F #[.pointer (some pl)]) w)
    (hF : Calls Try.prog F #[.pointer (some pl)] (w.setCell ⟨b, off + 1, none⟩ (.int .i32 1)) fun e w' => e = .returned (.tuple #[]) ∧ R w')
    (h0 : w.cell? ⟨b, off, none⟩ = some (.int .u32 0)) (h1 : w.cell? ⟨b, off + 1, none⟩ = some (.int .i32 0))
    (f1 : w.frozen? ⟨b, off + 1, none⟩ = false)
    (hR : ∀ W2, R W2 → OnceIn b off W2) :
    Calls Try.prog 81 #[.pointer (some ⟨b, off, none⟩), .func (.func F) #[] #[.pointer (some pl)]] w fun e w' => e = .returned (.tuple #[]) ∧ OnceOut b off R w' := by
  have hl := run_call_load (P := Try.prog) Try.func86 (by kernel_rfl) (by kernel_rfl) (by kernel_rfl) .u32 (by kernel_rfl) h0
  have hnot : ∀ (x : Bool) (w : World), (Op.unary .not (.bool x)).run Try.prog w = .ok (.bool (!x)) w := fun _ _ => rfl
  have hS := sy_slowR b off F pl w R hcf hF h0 h1 f1 hR
  clear hF hcf hR
  go_enter Try.func81, Try.ntmps81
  go_wp2_with (first | (go_at_call 85; refine hS.mono ?_; rintro e w' ⟨rfl, hO⟩) | (go_at_call 84; go_in))
  go_end0
  exact ⟨rfl, hO⟩
end Go.Proofs.Ytodjmfmenfncdaa
