/- The statement ViewChanges: the law returns true, and what was there stays. -/
import Derived.Test.YtlcacobkiglmbaaRows
import Derived.Test.YtlcacobkiglmbaaRowV
import Derived.WalkKit
import Derived.ProofKit
import Derived.OpenShut
import Derived.ShutString
import Derived.ChangeOld
import Derived.Below
import Derived.SizedLaws
import Derived.Carry
import Derived.Test.YtlcacobkiglmbaaChgW
namespace Go.Proofs.Ytlcacobkiglmbaa.viewChanges
open Go.ChangeShapes Go.WideShapes Go.ChangeAt Go.RowKit
set_option linter.unusedVariables false
theorem own : ownKnob Try.prog.godebug = none := by kernel_rfl
theorem laidOut : laidOutB Try.prog = true := by kernel_rfl
set_option maxRecDepth 100000 in
theorem lifted (os : Os) (started : os.Started) (H : Type) (enc : TypeId × Value → H) :
    ReturnsInHanded {} Try.checked os 4 .any (Rows.viewChangesSpec.pre6 enc Try.prog Try.f4 Rows.viewChangesRow.domain false) (Rows.viewChangesSpec.post enc Try.prog Try.f4 false true false false) := by
  refine returnsInHanded_of_change_sized (C := Try.checked) own started (by kernel_rfl) Try.func4
    (ChangeSpec.witness6 (enc := enc) (C := Try.checked) false ⟨#[], #[.agg #[.slice none 0 0], .agg #[.string ⟨#[]⟩, .int .i64 0, .int .i64 0, .int .i64 0, .slice none 0 0, .slice none 0 0], .string ⟨#[]⟩], []⟩ 8 (by kernel_rfl) (by kernel_rfl) (by kernel_rfl) (by kernel_rfl)) ?_
  intro W base args ds gs before hval0 hW hcnd hsz0 _
  have hval : ∀ (j : Nat) t v, Try.f4.params[j]? = some t → args[j]? = some v → Value.okWide Try.prog W .any base t v := hval0
  have hW' := hW
  obtain ⟨p, q, hA0, hV, rfl, hfz, hnd⟩ := hW
  have hA : DataW.TrodAll enc Try.prog W 0 (fun _ => true) true Try.f4.params.toList args.toList ds p := hA0
  rw [Try.params4] at hA hval
  obtain ⟨v0, vs0, d0, ds0, p0, q0, hargs, rfl, rfl, h0, r0⟩ := trodAll_cons hA
  obtain ⟨v1, vs1, d1, ds1, p1, q1, rfl, rfl, rfl, h1, r1⟩ := trodAll_cons r0
  obtain ⟨v2, vs2, d2, ds2, p2, q2, rfl, rfl, rfl, h2, r2⟩ := trodAll_cons r1
  obtain ⟨rfl, rfl, rfl⟩ := trodAll_nil r2
  obtain rfl : args = #[v0, v1, v2] := by cases args; simp_all
  obtain ⟨rfl, rfl⟩ := trodVars_none hV
  have lt : ∀ (t : TypeId) (v : Value) (d : DataW H) (p : List MemPlace), DataW.Trod enc Try.prog W 0 (fun _ => true) true t v d p → ∀ x ∈ p, x.block < W.heap.size := fun t v d p h => by
    obtain ⟨m, hm⟩ := h
    exact DataW.trod_lt m _ _ _ hm
  have sz0 : Go.Pv.Lite Try.prog 24 d0 := Go.Pv.weightsEach_get hsz0 0 _ _ (by kernel_rfl) rfl
  obtain ⟨x0, g0, sm0⟩ : ∃ x0, Go.Pv.Rel W (Go.Pv.E0 W) (.agg (Go.Pv.encMap x0)) v0 ∧ (∀ o ∈ x0, Go.Pv.ObjSm o) := by
    obtain ⟨cs, rfl, _⟩ := okWide_struct Try.underlying24 (hval 0 24 v0 rfl rfl)
    obtain ⟨n, hn⟩ := h0
    obtain ⟨m, hm, hs⟩ := Go.Pv.opensW_map n _ _ hn
    exact ⟨m, Go.Pv.RelL.agg hm, hs sz0⟩
  have sz1 : Go.Pv.Lite Try.prog 38 d1 := Go.Pv.weightsEach_get hsz0 1 _ _ (by kernel_rfl) rfl
  obtain ⟨x1, g1, sm1⟩ : ∃ x1, Go.Pv.Rel W (Go.Pv.E0 W) (.agg (Go.Pv.encObj x1)) v1 ∧ (Go.Pv.ObjSm x1) := by
    obtain ⟨cs, rfl, _⟩ := okWide_struct Try.underlying38 (hval 1 38 v1 rfl rfl)
    obtain ⟨n, hn⟩ := h1
    obtain ⟨m, hm, hs⟩ := Go.Pv.opensW_obj n _ _ hn
    exact ⟨m, Go.Pv.RelL.agg hm, hs sz1⟩
  obtain ⟨x2, g2⟩ : ∃ x2 : ByteArray, Go.Pv.Rel W (Go.Pv.E0 W) (.str x2) v2 := by
    obtain ⟨s, rfl⟩ := okWide_string Try.underlying9 (hval 2 9 v2 rfl rfl)
    exact ⟨s, .str s⟩
  clear hA0 hval0 hsz0
  refine (Go.Pv.calls_of_spec Go.Pv.tr_plaw19_ViewChanges (Go.Pv.spec_changesLaw x0 x1 x2 sm0 sm1) (w := W) (vs := #[v0, v1, v2]) rfl ?_).mono ?_
  · intro j x hx
    match j, hx with
    | 0, hx => cases hx; exact g0
    | 1, hx => cases hx; exact g1
    | 2, hx => cases hx; exact g2
    | j + 3, hx => cases hx
  · rintro e W' ⟨v, rfl, bel, E', hv⟩
    cases hv
    exact ⟨_, rfl, _, _, _, [], _, [], hW', trodAll_mk1 (shut_bool Try.underlying4 _), trodAll_cons_mk (Below.trod laidOut (by kernel_rfl) (of_decide_eq_true (by kernel_rfl)) h0 bel (lt _ _ _ _ h0)) (trodAll_cons_mk (Below.trod laidOut (by kernel_rfl) (of_decide_eq_true (by kernel_rfl)) h1 bel (lt _ _ _ _ h1)) (trodAll_cons_mk (Below.trod laidOut (by kernel_rfl) (of_decide_eq_true (by kernel_rfl)) h2 bel (lt _ _ _ _ h2)) trodAll_mk0)), rfl, bel.frame _, fun h => by cases h⟩
theorem over : Rows.viewChangesRow.holds Try.pinned (OpenSpec.ofChange Rows.viewChangesSpec) :=
  OpenClaim.holds_of_wide 4 Try.f4 rfl rfl rfl rfl rfl rfl rfl ⟨rfl, rfl, rfl, rfl, rfl⟩ rfl rfl rfl rfl rfl (by kernel_rfl) Try.func4 (by kernel_rfl)
    (of_decide_eq_true (by kernel_rfl)) (by unfold Func.isWrapper; first | (rw [if_pos (by decide +kernel)]; kernel_rfl) | (rw [if_neg (by decide +kernel)]; exact ⟨rfl, rfl⟩))
    (fun os started H enc _ => lifted os started H enc)
theorem proved : Rows.ViewChangesSaid := over
end Go.Proofs.Ytlcacobkiglmbaa.viewChanges
namespace Go.Proofs.Ytlcacobkiglmbaa
theorem viewChanges_holds : Rows.ViewChangesSaid := viewChanges.proved
end Go.Proofs.Ytlcacobkiglmbaa
