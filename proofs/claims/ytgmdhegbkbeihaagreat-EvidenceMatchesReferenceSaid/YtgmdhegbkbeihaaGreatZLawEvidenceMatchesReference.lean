/- The statement EvidenceMatchesReference: the law returns true, and what was there stays. -/
import Derived.Test.YtgmdhegbkbeihaaGreatRows
import Derived.Test.YtgmdhegbkbeihaaGreatZRowW
import Derived.WalkKit
import Derived.ProofKit
import Derived.OpenShut
import Derived.ShutString
import Derived.ChangeOld
import Derived.Below
import Derived.SizedLaws
import Derived.Carry
import Derived.Test.YtgmdhegbkbeihaaGreatZRefN
namespace Go.Proofs.YtgmdhegbkbeihaaGreat.evidenceMatchesReference
open Go.ChangeShapes Go.WideShapes Go.ChangeAt Go.RowKit
set_option linter.unusedVariables false
theorem own : ownKnob Tryz.prog.godebug = none := by kernel_rfl
theorem laidOut : laidOutB Tryz.prog = true := by kernel_rfl
set_option maxRecDepth 100000 in
theorem lifted (os : Os) (started : os.Started) (H : Type) (enc : TypeId × Value → H) :
    ReturnsInHanded {} Tryz.checked os 3 .any (Rows.evidenceMatchesReferenceSpec.pre6 enc Tryz.prog Tryz.f3 Rows.evidenceMatchesReferenceRow.domain false) (Rows.evidenceMatchesReferenceSpec.post enc Tryz.prog Tryz.f3 false true false false) := by
  refine returnsInHanded_of_change_sized (C := Tryz.checked) own started (by kernel_rfl) Tryz.func3
    (ChangeSpec.witness6 (enc := enc) (C := Tryz.checked) false ⟨#[], #[.agg #[.slice none 0 0], .slice none 0 0], []⟩ 8 (by kernel_rfl) (by kernel_rfl) (by kernel_rfl) (by kernel_rfl)) ?_
  intro W base args ds gs before hval0 hW hcnd hsz0 _
  have hval : ∀ (j : Nat) t v, Tryz.f3.params[j]? = some t → args[j]? = some v → Value.okWide Tryz.prog W .any base t v := hval0
  have hW' := hW
  obtain ⟨p, q, hA0, hV, rfl, hfz, hnd⟩ := hW
  have hA : DataW.TrodAll enc Tryz.prog W 0 (fun _ => true) true Tryz.f3.params.toList args.toList ds p := hA0
  rw [Tryz.params3] at hA hval
  obtain ⟨v0, vs0, d0, ds0, p0, q0, hargs, rfl, rfl, h0, r0⟩ := trodAll_cons hA
  obtain ⟨v1, vs1, d1, ds1, p1, q1, rfl, rfl, rfl, h1, r1⟩ := trodAll_cons r0
  obtain ⟨rfl, rfl, rfl⟩ := trodAll_nil r1
  obtain rfl : args = #[v0, v1] := by cases args; simp_all
  obtain ⟨rfl, rfl⟩ := trodVars_none hV
  have lt : ∀ (t : TypeId) (v : Value) (d : DataW H) (p : List MemPlace), DataW.Trod enc Tryz.prog W 0 (fun _ => true) true t v d p → ∀ x ∈ p, x.block < W.heap.size := fun t v d p h => by
    obtain ⟨m, hm⟩ := h
    exact DataW.trod_lt m _ _ _ hm
  have sz0 : Go.Pv.Lite Tryz.prog 24 d0 := Go.Pv.weightsEach_get hsz0 0 _ _ (by kernel_rfl) rfl
  obtain ⟨x0, g0, sm0⟩ : ∃ x0, Go.Pv.Rel W (Go.Pv.E0 W) (.agg (Go.Pv.encMap x0)) v0 ∧ (∀ o ∈ x0, Go.Pv.ObjSm o) := by
    obtain ⟨cs, rfl, _⟩ := okWide_struct Tryz.underlying24 (hval 0 24 v0 rfl rfl)
    obtain ⟨n, hn⟩ := h0
    obtain ⟨m, hm, hs⟩ := Go.Pv.opensW_map n _ _ hn
    exact ⟨m, Go.Pv.RelL.agg hm, hs sz0⟩
  have sz1 : Go.Pv.Lite Tryz.prog 25 d1 := Go.Pv.weightsEach_get hsz0 1 _ _ (by kernel_rfl) rfl
  obtain ⟨x1, g1, sm1⟩ : ∃ x1 : List Go.Pv.Edit, Go.Pv.Rel W (Go.Pv.E0 W) (.sl 15 (x1.map Go.Pv.encEdit) .no) v1 ∧ (∀ e ∈ x1, Go.Pv.ObjSm e.obj) := by
    obtain ⟨a, len, cap, rfl⟩ := okWide_slice Tryz.underlying25 (hval 1 25 v1 rfl rfl)
    obtain ⟨n, hn⟩ := h1
    obtain ⟨l, hl, hs⟩ := Go.Pv.opensW_edits n _ _ hn
    exact ⟨l, Go.Pv.RelL.one_cell hl, hs sz1⟩
  clear hA0 hval0 hsz0
  refine (Go.Pv.calls_of_spec Go.Pv.tr_plaw31_EvidenceMatchesReference (Go.Pv.spec_matchLaw x0 x1 sm0 sm1) (w := W) (vs := #[v0, v1]) rfl ?_).mono ?_
  · intro j x hx
    match j, hx with
    | 0, hx => cases hx; exact g0
    | 1, hx => cases hx; exact g1
    | j + 2, hx => cases hx
  · rintro e W' ⟨v, rfl, bel, E', hv⟩
    cases hv
    exact ⟨_, rfl, _, _, _, [], _, [], hW', trodAll_mk1 (shut_bool Tryz.underlying4 _), trodAll_cons_mk (Below.trod laidOut (by kernel_rfl) (of_decide_eq_true (by kernel_rfl)) h0 bel (lt _ _ _ _ h0)) (trodAll_cons_mk (Below.trod laidOut (by kernel_rfl) (of_decide_eq_true (by kernel_rfl)) h1 bel (lt _ _ _ _ h1)) trodAll_mk0), rfl, bel.frame _, fun h => by cases h⟩
theorem over : Rows.evidenceMatchesReferenceRow.holds Tryz.pinned (OpenSpec.ofChange Rows.evidenceMatchesReferenceSpec) :=
  OpenClaim.holds_of_wide 3 Tryz.f3 rfl rfl rfl rfl rfl rfl rfl ⟨rfl, rfl, rfl, rfl, rfl⟩ rfl rfl rfl rfl rfl (by kernel_rfl) Tryz.func3 (by kernel_rfl)
    (of_decide_eq_true (by kernel_rfl)) (by unfold Func.isWrapper; first | (rw [if_pos (by decide +kernel)]; kernel_rfl) | (rw [if_neg (by decide +kernel)]; exact ⟨rfl, rfl⟩))
    (fun os started H enc _ => lifted os started H enc)
theorem proved : Rows.EvidenceMatchesReferenceSaid := over
end Go.Proofs.YtgmdhegbkbeihaaGreat.evidenceMatchesReference
namespace Go.Proofs.YtgmdhegbkbeihaaGreat
theorem evidenceMatchesReference_holds : Rows.EvidenceMatchesReferenceSaid := evidenceMatchesReference.proved
end Go.Proofs.YtgmdhegbkbeihaaGreat
