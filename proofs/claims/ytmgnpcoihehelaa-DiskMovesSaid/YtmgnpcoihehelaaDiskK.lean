/- The disk's table of steps. -/
import Derived.Test.YtmgnpcoihehelaaDiskJ
namespace Go.Proofs.Ytmgnpcoihehelaa
open Go.RowKit

/-- which function a step is -/
def stepFn (k : Int) : Nat := if k = 3 then 65 else if k = 2 then 64 else 63
set_option maxRecDepth 100000 in
theorem does_any (w : World) (d : Value) (k : Int) (h : k = 0 ∨ k = 1 ∨ k = 2 ∨ k = 3) :
    Calls Try.prog 51 #[d, .int .i64 k] w fun e w' => e = .returned (.func (.func (stepFn k)) #[] #[]) ∧ w' = w := by
  have i0 : ∀ w, (Instr.index 97 (.agg #[.func (.func 63) #[] #[], .func (.func 63) #[] #[], .func (.func 64) #[] #[], .func (.func 65) #[] #[]]) (.int .i64 0)).run Try.prog w = .ok (.func (.func 63) #[] #[]) w := fun _ => by kernel_rfl
  have i1 : ∀ w, (Instr.index 97 (.agg #[.func (.func 63) #[] #[], .func (.func 63) #[] #[], .func (.func 64) #[] #[], .func (.func 65) #[] #[]]) (.int .i64 1)).run Try.prog w = .ok (.func (.func 63) #[] #[]) w := fun _ => by kernel_rfl
  have i2 : ∀ w, (Instr.index 97 (.agg #[.func (.func 63) #[] #[], .func (.func 63) #[] #[], .func (.func 64) #[] #[], .func (.func 65) #[] #[]]) (.int .i64 2)).run Try.prog w = .ok (.func (.func 64) #[] #[]) w := fun _ => by kernel_rfl
  have i3 : ∀ w, (Instr.index 97 (.agg #[.func (.func 63) #[] #[], .func (.func 63) #[] #[], .func (.func 64) #[] #[], .func (.func 65) #[] #[]]) (.int .i64 3)).run Try.prog w = .ok (.func (.func 65) #[] #[]) w := fun _ => by kernel_rfl
  rcases h with rfl | rfl | rfl | rfl
  · go_enter Try.func51, Try.ntmps51
    go_wp2
    go_ret
    exact ⟨rfl, rfl⟩
  · go_enter Try.func51, Try.ntmps51
    go_wp2
    go_ret
    exact ⟨rfl, rfl⟩
  · go_enter Try.func51, Try.ntmps51
    go_wp2
    go_ret
    exact ⟨rfl, rfl⟩
  · go_enter Try.func51, Try.ntmps51
    go_wp2
    go_ret
    exact ⟨rfl, rfl⟩
end Go.Proofs.Ytmgnpcoihehelaa
