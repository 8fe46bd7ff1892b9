/- VerifyFound: the law returns true. -/
import Derived.Test.YtgmdhegbkbeihaaGreatVfQ
import Derived.Test.YtgmdhegbkbeihaaGreatEvY
import Derived.Test.YtgmdhegbkbeihaaGreatLawQ
set_option linter.unusedVariables false
set_option linter.unusedSimpArgs false
set_option maxRecDepth 4000
set_option maxHeartbeats 4000000
namespace Go.Pv
open Go

theorem fewA_fit {m : List Obj} {l : List Edit} {e : Evid} (h : fewA m l e = true) (hm : ∀ o ∈ m, ObjSm o) (hl : ∀ e ∈ l, ObjSm e.obj) : m.length ≤ 40 ∧ l.length ≤ 40 ∧ e.edits.length ≤ 10 ∧ MapFit m ∧ ∀ e ∈ l, EditFit e := by
  simp only [fewA, Bool.and_eq_true, Bool.not_eq_true', decide_eq_false_iff_not, decide_eq_true_eq, List.all_eq_true] at h
  obtain ⟨⟨⟨h1, h2⟩, h3, h4⟩, h5⟩ := h
  exact ⟨by omega, by omega, by omega, ⟨by omega, fun o ho => fit_M (h2 o ho) (hm o ho)⟩, fun e he => fit_E (h4 e he) (hl e he)⟩
theorem spec_foundLaw (m : List Obj) (l : List Edit) (hm : ∀ o ∈ m, ObjSm o) (hl : ∀ e ∈ l, ObjSm e.obj) {s : Nat → Option Blk} {k : Nat → Tk} : Spec prg 7 [.agg (encMap m), .sl 15 (l.map encEdit) .no] s k (.bool true) s k := by
  refine spec_tr prg_mixed tr_plaw32_VerifyFound (Nat.le_of_ble_eq_true rfl) rfl ?_
  unfold pc_plaw32_VerifyFound rs_plaw32_VerifyFound
  have hfew : ∀ t s k, Spec prg 21 [.agg [.sl 6 (m.map encObj) .no], .sl 15 (l.map encEdit) .no, .agg [.int .i64 0, .sl 1 [] t]] s k (.bool (fewA m l ⟨0, []⟩)) s k := fun t s k =>
    Spec.args (@spec7 m l ⟨0, []⟩ s k) (.cons (A.le_refl _) (.cons (A.le_refl _) (.cons (A.le_agg (.cons (A.le_refl _) (.cons (A.le_no _ _ _) .nil))) .nil)))
  simp only [pvZ, lz, nz, rr_one, upd_apply, upd_upd, initT, optI, splice, reduceIte, reduceCtorEq, Nat.reduceEqDiff, Nat.reduceAdd, Nat.reduceSub, Nat.reduceMul, Nat.reduceLeDiff, Nat.reduceLT, Int.reduceLT, Int.reduceLE, Int.reduceToNat, Int.reduceEq, Int.cast_ofNat_Int, and_true, not_false_eq_true, Option.map_none, Option.map_some, eq_self, true_or, or_true, Nat.sub_zero, Int.le_refl, encMap]
  (with_reducible refine newS_in ?_); intro b2 f2; simp only [upd_none] at f2
  simp only [pvZ, lz, nz, rr_one, upd_apply, upd_upd, initT, optI, splice, reduceIte, reduceCtorEq, Nat.reduceEqDiff, Nat.reduceAdd, Nat.reduceSub, Nat.reduceMul, Nat.reduceLeDiff, Nat.reduceLT, Int.reduceLT, Int.reduceLE, Int.reduceToNat, Int.reduceEq, Int.cast_ofNat_Int, and_true, not_false_eq_true, Option.map_none, Option.map_some, eq_self, true_or, or_true, Nat.sub_zero, Int.le_refl, f2]
  refine callS_quiet spec6 ?_
  simp only [pvZ, lz, nz, rr_one, upd_apply, upd_upd, initT, optI, splice, reduceIte, reduceCtorEq, Nat.reduceEqDiff, Nat.reduceAdd, Nat.reduceSub, Nat.reduceMul, Nat.reduceLeDiff, Nat.reduceLT, Int.reduceLT, Int.reduceLE, Int.reduceToNat, Int.reduceEq, Int.cast_ofNat_Int, and_true, not_false_eq_true, Option.map_none, Option.map_some, eq_self, true_or, or_true, Nat.sub_zero, Int.le_refl, f2]
  refine callS_quiet (hfew _ _ _) ?_
  cases hfw : fewA m l ⟨0, []⟩
  · simp only [pvZ, lz, nz, rr_one, upd_apply, upd_upd, initT, optI, splice, reduceIte, reduceCtorEq, Nat.reduceEqDiff, Nat.reduceAdd, Nat.reduceSub, Nat.reduceMul, Nat.reduceLeDiff, Nat.reduceLT, Int.reduceLT, Int.reduceLE, Int.reduceToNat, Int.reduceEq, Int.cast_ofNat_Int, and_true, not_false_eq_true, Option.map_none, Option.map_some, eq_self, true_or, or_true, Nat.sub_zero, Int.le_refl, f2, Bool.not_false]
    refine OutQ.eq (by repeat (first | exact SExt.refl _ | (refine SExt.old ?_ (by first | (simp only [*]; done) | (simp only [upd_none]; assumption) | (simp only [upd_none, *, not_false_eq_true, and_self]; done)) _))) rfl
  simp only [pvZ, lz, nz, rr_one, upd_apply, upd_upd, initT, optI, splice, reduceIte, reduceCtorEq, Nat.reduceEqDiff, Nat.reduceAdd, Nat.reduceSub, Nat.reduceMul, Nat.reduceLeDiff, Nat.reduceLT, Int.reduceLT, Int.reduceLE, Int.reduceToNat, Int.reduceEq, Int.cast_ofNat_Int, and_true, not_false_eq_true, Option.map_none, Option.map_some, eq_self, true_or, or_true, Nat.sub_zero, Int.le_refl, f2, Bool.not_true]
  obtain ⟨n1, n2, _, hmf, hlf⟩ := fewA_fit hfw hm hl
  have hF := fun s k => @spec_Find m l hmf (by omega) hlf s k
  have hA := fun s k => @spec8 m l (findF m l) s k hmf.len (fun o ho => (hmf.obj o ho).tags) (by omega) (fun e he => (hlf e he).obj.tags)
  simp only [encMap] at hF hA
  clear hfew hfw hm hl
  refine callS_quiet (hF _ _) ?_
  by_cases h0 : findF m l = ⟨0, []⟩
  · rw [h0, accept_none] at hA
    rw [h0]
    simp only [encEvid] at hA
    simp only [pvZ, lz, nz, rr_one, upd_apply, upd_upd, initT, optI, splice, reduceIte, reduceCtorEq, Nat.reduceEqDiff, Nat.reduceAdd, Nat.reduceSub, Nat.reduceMul, Nat.reduceLeDiff, Nat.reduceLT, Int.reduceLT, Int.reduceLE, Int.reduceToNat, Int.reduceEq, Int.cast_ofNat_Int, and_true, not_false_eq_true, Option.map_none, Option.map_some, eq_self, true_or, or_true, Nat.sub_zero, Int.le_refl, f2, encEvid]
    (with_reducible refine newS_in ?_); intro b6 f6; simp only [upd_none] at f6
    simp only [pvZ, lz, nz, rr_one, upd_apply, upd_upd, initT, optI, splice, reduceIte, reduceCtorEq, Nat.reduceEqDiff, Nat.reduceAdd, Nat.reduceSub, Nat.reduceMul, Nat.reduceLeDiff, Nat.reduceLT, Int.reduceLT, Int.reduceLE, Int.reduceToNat, Int.reduceEq, Int.cast_ofNat_Int, and_true, not_false_eq_true, Option.map_none, Option.map_some, eq_self, true_or, or_true, Nat.sub_zero, Int.le_refl, f2, f6]
    refine callS_quiet (hA _ _) ?_
    simp only [pvZ, lz, nz, rr_one, upd_apply, upd_upd, initT, optI, splice, reduceIte, reduceCtorEq, Nat.reduceEqDiff, Nat.reduceAdd, Nat.reduceSub, Nat.reduceMul, Nat.reduceLeDiff, Nat.reduceLT, Int.reduceLT, Int.reduceLE, Int.reduceToNat, Int.reduceEq, Int.cast_ofNat_Int, and_true, not_false_eq_true, Option.map_none, Option.map_some, eq_self, true_or, or_true, Nat.sub_zero, Int.le_refl, f2, f6, Bool.not_false]
    refine OutQ.eq (by repeat (first | exact SExt.refl _ | (refine SExt.old ?_ (by first | (simp only [*]; done) | (simp only [upd_none]; assumption) | (simp only [upd_none, *, not_false_eq_true, and_self]; done)) _))) rfl
  · have hcc : closedF m = true ∧ changeV l = true := by
      by_cases h : closedF m = true ∧ changeV l = true
      · exact h
      · exact absurd (by unfold findF; rw [if_neg h]) h0
    have hfe : findF m l = findE m l := by unfold findF; rw [if_pos hcc]
    have g1 : (findF m l).kind ≠ 0 := by
      rw [hfe]
      rcases find_holds m l with h | h
      · exact absurd (by rw [hfe, h]) h0
      · exact h.1
    have g2 : acceptF m l (findF m l) = true := by
      rw [hfe]
      exact accept_find hcc.1 hcc.2 (by rw [← hfe]; exact h0)
    rw [g2] at hA
    clear hfe h0 g2
    generalize findF m l = e at *
    obtain ⟨kd, es⟩ := e
    dsimp only at g1
    have d0 : decide (kd = 0) = false := decide_eq_false g1
    simp only [encEvid] at hA
    simp only [pvZ, lz, nz, rr_one, upd_apply, upd_upd, initT, optI, splice, reduceIte, reduceCtorEq, Nat.reduceEqDiff, Nat.reduceAdd, Nat.reduceSub, Nat.reduceMul, Nat.reduceLeDiff, Nat.reduceLT, Int.reduceLT, Int.reduceLE, Int.reduceToNat, Int.reduceEq, Int.cast_ofNat_Int, and_true, not_false_eq_true, Option.map_none, Option.map_some, eq_self, true_or, or_true, Nat.sub_zero, Int.le_refl, f2, encEvid]
    (with_reducible refine newS_in ?_); intro b6 f6; simp only [upd_none] at f6
    simp only [pvZ, lz, nz, rr_one, upd_apply, upd_upd, initT, optI, splice, reduceIte, reduceCtorEq, Nat.reduceEqDiff, Nat.reduceAdd, Nat.reduceSub, Nat.reduceMul, Nat.reduceLeDiff, Nat.reduceLT, Int.reduceLT, Int.reduceLE, Int.reduceToNat, Int.reduceEq, Int.cast_ofNat_Int, and_true, not_false_eq_true, Option.map_none, Option.map_some, eq_self, true_or, or_true, Nat.sub_zero, Int.le_refl, f2, f6, d0]
    refine callS_quiet (hA _ _) ?_
    simp only [pvZ, lz, nz, rr_one, upd_apply, upd_upd, initT, optI, splice, reduceIte, reduceCtorEq, Nat.reduceEqDiff, Nat.reduceAdd, Nat.reduceSub, Nat.reduceMul, Nat.reduceLeDiff, Nat.reduceLT, Int.reduceLT, Int.reduceLE, Int.reduceToNat, Int.reduceEq, Int.cast_ofNat_Int, and_true, not_false_eq_true, Option.map_none, Option.map_some, eq_self, true_or, or_true, Nat.sub_zero, Int.le_refl, f2, f6, d0]
    refine OutQ.eq (by repeat (first | exact SExt.refl _ | (refine SExt.old ?_ (by first | (simp only [*]; done) | (simp only [upd_none]; assumption) | (simp only [upd_none, *, not_false_eq_true, and_self]; done)) _))) rfl
end Go.Pv
