/- Framework, part Y: functions that are loaded and compiled. Conditions: none. -/
import Derived.Test.YtkkccabchhnebaaFwX
import Derived.KernelRfl
set_option linter.unusedVariables false
set_option linter.unusedSimpArgs false
namespace Go.SB

/-- Function f of P has been compiled: code, results, temporaries. -/
def FnOk (P : Program) (f : FuncId) (ic : IC) (rs : List RV) (n : Nat) : Prop :=
  ∃ (fn : Func) (hs : List (List Nat)), P.funcs[f]? = some fn ∧ (fn.name == "runtime.NumGoroutine") = false ∧ (fn.body.bind fun c => comp P c hs) = some (ic, []) ∧ compRs P fn.results.toList = some rs ∧ fn.ntmps = n

theorem acall_of {P : Program} (hm : P.follows .mixedOrders = true) {f : FuncId} {ic : IC} {rs : List RV} {n : Nat} (h : FnOk P f ic rs n) {args : List AV} {A : AHeap} {K : AV → AHeap → Prop}
    (hw : awp P A.length ic (args ++ List.replicate (n - args.length) .any) A (retQ A.length rs K)) : ACall P f args A K := by
  obtain ⟨fn, hs, h1, h2, h3, h4, h5⟩ := h
  cases hb : fn.body with
  | none => rw [hb] at h3; cases h3
  | some c => rw [hb] at h3; exact acall_of_body hm h1 hb h2 h3 h4 h5 hw
end Go.SB
