/- From a contract to what a row asks of a law's call. -/
import Derived.Test.YtaekeldgnlphkaaD25
namespace Go.DD
set_option linter.unusedVariables false
open Go.RowKit

/-- The environment of a law's call: all that there is stays. -/
def Env.law (W : World) : Env := { w := W, ρ := fun _ => 0, vt := fun _ => false, N := 0, S := fun b => b < W.heap.size, L := fun _ => False, K := fun b => b < W.heap.size }
theorem Env.law_wf (W : World) : Wf (Env.law W) := ⟨fun _ h => h, fun _ h => h.elim, fun _ h => h⟩
theorem calls_of_CP {P : Program} {f : Nat} {fn : Func} {gl : List (Nat × V)} {xs : List V} {args : Array Value} {W : World} (hf : P.funcs[f]? = some fn) (hb : fn.body.isNone = false) (hname : (fn.name == "runtime.NumGoroutine") = false)
    (hgl : GlOk gl (Env.law W)) (hT : Ts (Env.law W) xs args.toList) (h : CP P gl f xs (fun v => v = .bool true)) : Calls P f args W (fun e w' => e = .returned (.bool true) ∧ Below W.heap.size W w') := by
  have h1 := h (Env.law W) args (Env.law_wf W) rfl (fun _ h => h) hgl hT
  have hname' : ¬ fn.name = "runtime.NumGoroutine" := by simpa using hname
  have hcall : (callFunc f args).run P W = .ok (.enter f args) W := by
    simp only [callFunc, Sem.run_bind, run_program, Result.andThen_ok, hf, hname, hb, Bool.false_eq_true, if_false, Sem.run_pure]
  have h2 : (callFunc f args).run P (Env.law W).w = .ok (.enter f args) W := hcall
  rw [h2] at h1
  refine Calls.mono h1 fun e w' he => ?_
  cases e with
  | returned x =>
    obtain ⟨E', v, rfl, hx, _, hT', _, rfl⟩ := he
    exact ⟨by rw [T_bool.1 hT'], hx.os, hx.tape, hx.output, hx.size, fun k hk => hx.kept k hk⟩
  | panicked _ => exact he.elim
  | outgrown => exact he.elim
end Go.DD
