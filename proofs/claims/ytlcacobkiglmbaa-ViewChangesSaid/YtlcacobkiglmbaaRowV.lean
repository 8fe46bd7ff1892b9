/- The arguments of the laws, with what their sizes say; from a contract to the row. -/
import Derived.Test.YtlcacobkiglmbaaPvW
import Derived.Test.YtlcacobkiglmbaaFewV
import Derived.Test.YtlcacobkiglmbaaEvG
import Derived.Below
set_option linter.unusedVariables false
set_option linter.unusedSimpArgs false
set_option maxRecDepth 4000
namespace Go.Pv
open Go Go.RowKit

structure TagSm (t : Tag) : Prop where
  key : t.key.size ≤ 140737488351232
  val : t.val.size ≤ 140737488351232
def ObjSm (o : Obj) : Prop := ∀ t ∈ o.tags, TagSm t
theorem short_fit {n : Int} {t : Tag} (hn : n ≤ 1000) (h : shortT n t = true) (hs : TagSm t) : t.key.size ≤ 1000 ∧ t.val.size ≤ 1000 := by
  obtain ⟨h1, h2⟩ := hs
  unfold shortT at h
  rw [wrap64 (by omega) (by omega)] at h
  simp at h
  omega
theorem fit_M {o : Obj} (h : fewM o = true) (hs : ObjSm o) : ObjFit o := by
  simp only [fewM, Bool.and_eq_true, Bool.not_eq_true', decide_eq_false_iff_not, List.all_eq_true, shortS] at h
  obtain ⟨⟨⟨⟨a1, a2⟩, a3⟩, a4⟩, a5⟩ := h
  refine ⟨by omega, by omega, fun r hr => ?_, by omega, fun t ht => ?_⟩
  · have := a4 r hr; omega
  · have := short_fit (by decide) (a5 t ht) (hs t ht); exact ⟨by omega, by omega⟩
theorem fewV_fit {m : List Obj} (h : (!decide ((40 : Int) < m.length) && m.all fewM) = true) (hm : ∀ o ∈ m, ObjSm o) : MapFit m := by
  simp only [Bool.and_eq_true, Bool.not_eq_true', decide_eq_false_iff_not, List.all_eq_true] at h
  exact ⟨by omega, fun o ho => fit_M (h.2 o ho) (hm o ho)⟩
section
variable {H : Type} {enc : TypeId × Value → H} {w : World}
theorem reach_eq : reachBytes = 140737488351232 := rfl
theorem opensW_strs : OpensW enc prg w 28 (fun l : List ByteArray => [.sl 1 (l.map encStr) .no]) (fun _ => True) := .of (opens_slice (e := 9) (f := encStr) (by kernel_rfl) (by kernel_rfl) (by decide) (fun _ => rfl) (opens_string (by kernel_rfl)))
theorem opensW_tag : OpensW enc prg w 72 encTag TagSm := fun fuel cs d h => by
  obtain ⟨h0, hf⟩ := opensW_fields (l := [(9, 0, 1), (9, 1, 1)]) (by kernel_rfl) h
  have hn : cs.length = 2 := h0.trans (by kernel_rfl)
  obtain ⟨m0, d0, q0, l0⟩ := hf 0 _ _ _ rfl
  obtain ⟨m1, d1, q1, l1⟩ := hf 1 _ _ _ rfl
  obtain ⟨x0, r0, s0⟩ := opensW_string (by kernel_rfl) m0 _ _ q0
  obtain ⟨x1, r1, s1⟩ := opensW_string (by kernel_rfl) m1 _ _ q1
  exact ⟨⟨x0, x1⟩, (r0.app r1 rfl).whole hn, fun hl => ⟨s0 (l0 hl), s1 (l1 hl)⟩⟩
theorem opensW_tags : OpensW enc prg w 36 (fun l : List Tag => [.sl 2 (l.map encTag) .no]) (fun l => ∀ t ∈ l, TagSm t) := opensW_slice (e := 72) (f := encTag) (by kernel_rfl) (by kernel_rfl) (by decide) (fun _ => rfl) opensW_tag
theorem opensW_point : OpensW enc prg w 35 (fun p : Int × Int => [.int .i64 p.1, .int .i64 p.2]) (fun _ => True) := fun fuel cs d h => by
  obtain ⟨h0, hf⟩ := opensW_fields (l := [(3, 0, 1), (3, 1, 1)]) (by kernel_rfl) h
  have hn : cs.length = 2 := h0.trans (by kernel_rfl)
  obtain ⟨m0, d0, q0, _⟩ := hf 0 _ _ _ rfl
  obtain ⟨m1, d1, q1, _⟩ := hf 1 _ _ _ rfl
  obtain ⟨x0, r0⟩ := opens_int (by kernel_rfl) m0 _ _ q0
  obtain ⟨x1, r1⟩ := opens_int (by kernel_rfl) m1 _ _ q1
  exact ⟨⟨x0, x1⟩, (r0.app r1 rfl).whole hn, fun _ => trivial⟩
theorem opensW_obj : OpensW enc prg w 38 encObj ObjSm := fun fuel cs d h => by
  obtain ⟨h0, hf⟩ := opensW_fields (l := [(9, 0, 1), (3, 1, 1), (35, 2, 2), (28, 4, 1), (36, 5, 1)]) (by kernel_rfl) h
  have hn : cs.length = 6 := h0.trans (by kernel_rfl)
  obtain ⟨m0, d0, q0, _⟩ := hf 0 _ _ _ rfl
  obtain ⟨m1, d1, q1, _⟩ := hf 1 _ _ _ rfl
  obtain ⟨m2, d2, q2, _⟩ := hf 2 _ _ _ rfl
  obtain ⟨m3, d3, q3, _⟩ := hf 3 _ _ _ rfl
  obtain ⟨m4, d4, q4, l4⟩ := hf 4 _ _ _ rfl
  obtain ⟨x0, r0⟩ := opens_string (by kernel_rfl) m0 _ _ q0
  obtain ⟨x1, r1⟩ := opens_int (by kernel_rfl) m1 _ _ q1
  obtain ⟨x2, r2, _⟩ := opensW_point m2 _ _ q2
  obtain ⟨x3, r3, _⟩ := opensW_strs m3 _ _ q3
  obtain ⟨x4, r4, s4⟩ := opensW_tags m4 _ _ q4
  exact ⟨⟨x0, x1, x2.1, x2.2, x3, x4⟩, ((((r0.app r1 rfl).app r2 rfl).app r3 rfl).app r4 rfl).whole hn, fun hl => s4 (l4 hl)⟩
theorem opensW_objs : OpensW enc prg w 22 (fun l : List Obj => [.sl 6 (l.map encObj) .no]) (fun l => ∀ o ∈ l, ObjSm o) := opensW_slice (e := 38) (f := encObj) (by kernel_rfl) (by kernel_rfl) (by decide) (fun _ => rfl) opensW_obj
theorem opensW_map : OpensW enc prg w 24 encMap (fun l => ∀ o ∈ l, ObjSm o) := fun fuel cs d h => by
  obtain ⟨h0, hf⟩ := opensW_fields (l := [(22, 0, 1)]) (by kernel_rfl) h
  have hn : cs.length = 1 := h0.trans (by kernel_rfl)
  obtain ⟨m0, d0, q0, l0⟩ := hf 0 _ _ _ rfl
  obtain ⟨x0, r0, s0⟩ := opensW_objs m0 _ _ q0
  exact ⟨x0, r0.whole hn, fun hl => s0 (l0 hl)⟩
end
theorem calls_of_spec {B : List Nat} {P : Program} {f : FuncId} {pc : PC} {rs : List RV} {n : Nat} (ht : trAll P B f = some (pc, rs, n)) {args : List A} {r : A} (h : Spec P f args (fun _ => none) (fun _ => .unused) r (fun _ => none) (fun _ => .unused)) {w : World} {vs : Array Value} (hl : vs.size = args.length)
    (hr : ∀ j x, args[j]? = some x → Rel w (E0 w) x (vs.getD j Go.undef)) : Calls P f vs w fun e w' => ∃ v, e = .returned v ∧ Below w.heap.size w w' ∧ ∃ E', Rel w' E' r v := by
  have hc := h w (E0 w) vs (inv0 w) hl hr
  unfold trAll at ht
  simp only [Option.bind_eq_bind, Option.bind_eq_some_iff] at ht
  obtain ⟨fn, h1, c, h2, pc', h3, rs', h4, ht⟩ := ht
  split at ht
  · cases ht
  · rename_i hname
    have hname' : (fn.name == "runtime.NumGoroutine") = false := by simpa using hname
    have hcf : (callFunc f vs).run P w = .ok (.enter f vs) w := by
      simp only [callFunc, Sem.run_bind, run_program, Result.andThen_ok, h1, hname', Bool.false_eq_true, if_false, h2, Option.isNone_some, Sem.run_pure]
    unfold CallsV at hc
    rw [hcf] at hc
    refine Calls.mono hc fun e w' ⟨v, he, E', hR, hv⟩ => ⟨v, he, ?_, E', hv⟩
    have ha := hR.agree
    refine ⟨ha.os, ha.tape, ha.output, ha.size, fun k hk => ha.block k hk ?_⟩
    rintro (⟨id, h, _⟩ | ⟨g, r, h, _⟩)
    · exact h rfl
    · cases h
end Go.Pv
