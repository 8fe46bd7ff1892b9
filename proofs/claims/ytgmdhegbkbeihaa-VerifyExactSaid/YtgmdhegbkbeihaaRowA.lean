/- From a contract to the row. -/
import Derived.Test.YtgmdhegbkbeihaaLawS
set_option linter.unusedVariables false
namespace Go.Pv
open Go Go.RowKit

theorem calls_of_spec {B : List Nat} {P : Program} {f : FuncId} {pc : PC} {rs : List RV} {n : Nat} (ht : trAll P B f = some (pc, rs, n)) {args : List A} {r : A} (h : Spec P f args (fun _ => none) (fun _ => .unused) r (fun _ => none) (fun _ => .unused)) {w : World} {vs : Array Value} (hl : vs.size = args.length)
    (hr : ∀ j x, args[j]? = some x → Rel w (E0 w) x (vs.getD j Go.undef)) : Calls P f vs w fun e w' => ∃ v, e = .returned v ∧ Below w.heap.size w w' ∧ ∃ E', Rel w' E' r v := by
  have hc := h w (E0 w) vs (inv0 w) hl hr
  unfold trAll at ht
  simp only [Option.bind_eq_bind, Option.bind_eq_some_iff] at ht
  obtain ⟨fn, h1, c, h2, pc', h3, rs', h4, ht⟩ := ht
  split at ht
  · cases ht
  · rename_i hname
    have hname' : (fn.name == "runtime.NumGoroutine") = false := by simpa using hname
    have hcf : (callFunc f vs).run P w = .ok (.enter f vs) w := by
      simp only [callFunc, Sem.run_bind, run_program, Result.andThen_ok, h1, hname', Bool.false_eq_true, if_false, h2, Option.isNone_some, Sem.run_pure]
    unfold CallsV at hc
    rw [hcf] at hc
    refine Calls.mono hc fun e w' ⟨v, he, E', hR, hv⟩ => ⟨v, he, ?_, E', hv⟩
    have ha := hR.agree
    refine ⟨ha.os, ha.tape, ha.output, ha.size, fun k hk => ha.block k hk ?_⟩
    rintro (⟨id, h, _⟩ | ⟨g, r, h, _⟩)
    · exact h rfl
    · cases h
end Go.Pv
