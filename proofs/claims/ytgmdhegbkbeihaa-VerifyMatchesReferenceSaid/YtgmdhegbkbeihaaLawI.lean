/- The reference: shows, fit. -/
import Derived.Test.YtgmdhegbkbeihaaLawH
set_option linter.unusedVariables false
set_option linter.unusedSimpArgs false
set_option maxRecDepth 4000
namespace Go.Pv
open Go

theorem objF_no {l : List Obj} {i : ByteArray} (h : (objF l i).2 = false) : (objF l i).1 = zeroObj := by
  unfold objF at h ⊢
  split at h
  · cases h
  · rfl
theorem ron_on (x y : Int) : ronF x y = onF x y := by
  rw [Bool.eq_iff_iff]
  simp [ronF, onF]
  omega
theorem spec18 (m : List Obj) (e : Edit) (kd : Int) {s : Nat → Option Blk} {k : Nat → Tk} (hm : m.length < 4611686018427387904) (hmt : ∀ o ∈ m, o.tags.length < 4611686018427387904) :
    Spec prg 18 [.agg (encMap m), .agg (encEdit e), .int .i64 kd] s k (.bool (showsF kd m e)) s k := by
  have hto : (objF m e.id).1.tags.length < 4611686018427387904 := by
    unfold objF
    split
    · rename_i o h
      exact hmt o (List.mem_of_find?_eq_some h)
    · exact (by decide : (0 : Nat) < 4611686018427387904)
  refine spec_tr prg_mixed tr18 (Nat.le_of_ble_eq_true rfl) rfl ?_
  unfold pc18 rs18
  have hno := @objF_no m e.id
  generalize hO : objF m e.id = O at hto hno
  obtain ⟨o, b⟩ := O
  dsimp only at hto hno
  have h28 := fun s k => @spec28 m e.id s k hm
  simp only [hO] at h28
  repeat' (first | (refine callS_quiet (h28 _ _) ?_) | (refine callS_quiet (spec29 _ hto) ?_) | (refine callS_quiet (spec30 _ _) ?_) | (with_reducible refine newS_in ?_; intro _ hid_; simp only [upd_none] at hid_) | (with_reducible refine brC_in (fun h_ => ?_) (fun h_ => ?_)) | (with_reducible refine brG_in (fun h_ => ?_) (fun h_ => ?_)) | (with_reducible refine brN_in (fun h_ => ?_) (fun h_ => ?_)) | simp only [pwp_cond, pwp_seq, pwp_block, pvC, runs_some, gdS_false, gdS_true, step_pick, step_load, step_store, step_fld, step_idx, step_idxA, step_getf, step_geti, step_bin, step_eqs, step_eqb, step_un, step_conv, step_len, step_mm, step_ext, step_call, step_callq, step_slc, step_look, pvO, pvK, pvQ, pvE, pvR, pvRC, fldA_eq, lenA_eq, pvV, pvB, pvB1, pvB2, pvL, upd_apply, initT, optI, lenI, splice, pvP, List.map_cons, List.map_nil, List.length_cons, List.length_nil, List.length_map, List.getElem?_cons_zero, List.getElem?_cons_succ, List.getElem?_nil, Option.getD_some, Option.getD_none, List.cons_append, List.nil_append, List.append_nil, List.drop_succ_cons, List.drop_zero, List.take_succ_cons, List.take_zero, List.drop_nil, List.take_nil, List.set_cons_zero, List.set_cons_succ, List.replicate_succ, List.replicate_zero, reduceIte, reduceCtorEq, Nat.add_zero, Nat.zero_add, not_true_eq_false, not_false_eq_true, and_true, true_and, and_self, Bool.false_eq_true, Bool.not_true, Bool.not_false, decide_true, decide_false, Int.toNat_natCast, Int.natCast_nonneg, Nat.le_refl, Nat.zero_le, Nat.reduceEqDiff, Nat.reduceAdd, Nat.reduceSub, Nat.reduceMul, Nat.reduceLeDiff, Nat.reduceLT, Int.reduceLT, Int.reduceLE, Int.reduceToNat, Int.reduceEq, Int.cast_ofNat_Int, *, -hmt, -hto, -h28, -hno, -hO, encMap, encEdit, encObj])
  all_goals (refine OutQ.eq (by repeat (first | exact SExt.refl _ | (refine SExt.old ?_ (by simp only [*]) _))) ?_)
  all_goals clear h28 hmt hm hto
  all_goals cases b
  all_goals first | (have h0 := hno rfl; subst h0; simp_all [showsF, droppedF, blankedF, movedF, putF, ron_on, nameB, farF, zeroObj]; done) | (simp_all [showsF, droppedF, blankedF, movedF, putF, ron_on, nameB, farF]; done)
theorem spec19 (a b : Edit) (kd : Int) {s : Nat → Option Blk} {k : Nat → Tk} (hl : a.obj.tags.length < 4611686018427387904) : Spec prg 19 [.agg (encEdit a), .agg (encEdit b), .int .i64 kd] s k (.bool (togF kd a b)) s k := by
  refine spec_tr prg_mixed tr19 (Nat.le_of_ble_eq_true rfl) rfl ?_
  unfold pc19 rs19
  repeat' (first | (refine callS_quiet (spec31 _ _ hl) ?_) | (with_reducible refine newS_in ?_; intro _ hid_; simp only [upd_none] at hid_) | (with_reducible refine brC_in (fun h_ => ?_) (fun h_ => ?_)) | (with_reducible refine brG_in (fun h_ => ?_) (fun h_ => ?_)) | (with_reducible refine brN_in (fun h_ => ?_) (fun h_ => ?_)) | simp only [pwp_cond, pwp_seq, pwp_block, pvC, runs_some, gdS_false, gdS_true, step_pick, step_load, step_store, step_fld, step_idx, step_idxA, step_getf, step_geti, step_bin, step_eqs, step_eqb, step_un, step_conv, step_len, step_mm, step_ext, step_call, step_callq, step_slc, step_look, pvO, pvK, pvQ, pvE, pvR, pvRC, fldA_eq, lenA_eq, pvV, pvB, pvB1, pvB2, pvL, upd_apply, initT, optI, lenI, splice, pvP, List.map_cons, List.map_nil, List.length_cons, List.length_nil, List.length_map, List.getElem?_cons_zero, List.getElem?_cons_succ, List.getElem?_nil, Option.getD_some, Option.getD_none, List.cons_append, List.nil_append, List.append_nil, List.drop_succ_cons, List.drop_zero, List.take_succ_cons, List.take_zero, List.drop_nil, List.take_nil, List.set_cons_zero, List.set_cons_succ, List.replicate_succ, List.replicate_zero, reduceIte, reduceCtorEq, Nat.add_zero, Nat.zero_add, not_true_eq_false, not_false_eq_true, and_true, true_and, and_self, Bool.false_eq_true, Bool.not_true, Bool.not_false, decide_true, decide_false, Int.toNat_natCast, Int.natCast_nonneg, Nat.le_refl, Nat.zero_le, Nat.reduceEqDiff, Nat.reduceAdd, Nat.reduceSub, Nat.reduceMul, Nat.reduceLeDiff, Nat.reduceLT, Int.reduceLT, Int.reduceLE, Int.reduceToNat, Int.reduceEq, Int.cast_ofNat_Int, *, encEdit, eqCells, fitBs, fitB, Option.map_some, Bool.and_true, Bool.and_self])
  all_goals (refine OutQ.eq (by repeat (first | exact SExt.refl _ | (refine SExt.old ?_ (by simp only [*]) _))) ?_)
  all_goals simp_all [togF, alikeF, othersF]
end Go.Pv
