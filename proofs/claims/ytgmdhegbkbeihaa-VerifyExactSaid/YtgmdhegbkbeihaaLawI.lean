/- The reference: shows, fit. -/
import Derived.Test.YtgmdhegbkbeihaaLawH
set_option linter.unusedVariables false
set_option linter.unusedSimpArgs false
set_option maxRecDepth 4000
set_option maxHeartbeats 1000000
namespace Go.Pv
open Go

theorem objF_no {l : List Obj} {i : ByteArray} (h : (objF l i).2 = false) : (objF l i).1 = zeroObj := by
  unfold objF at h ⊢
  split at h
  · cases h
  · rfl
theorem ron_on (x y : Int) : ronF x y = onF x y := by
  rw [Bool.eq_iff_iff]
  simp [ronF, onF]
  omega
theorem spec18 (m : List Obj) (e : Edit) (kd : Int) {s : Nat → Option Blk} {k : Nat → Tk} (hm : m.length < 4611686018427387904) (hmt : ∀ o ∈ m, o.tags.length < 4611686018427387904) :
    Spec prg 18 [.agg (encMap m), .agg (encEdit e), .int .i64 kd] s k (.bool (showsF kd m e)) s k := by
  have hto : (objF m e.id).1.tags.length < 4611686018427387904 := by
    unfold objF
    split
    · rename_i o h
      exact hmt o (List.mem_of_find?_eq_some h)
    · exact (by decide : (0 : Nat) < 4611686018427387904)
  refine spec_tr prg_mixed tr_pref32_shows (Nat.le_of_ble_eq_true rfl) rfl ?_
  unfold pc_pref32_shows rs_pref32_shows
  have hno := @objF_no m e.id
  generalize hO : objF m e.id = O at hto hno
  obtain ⟨o, b⟩ := O
  dsimp only at hto hno
  have h28 := fun s k => @spec28 m e.id s k hm
  simp only [hO] at h28
  repeat' (first | (refine callS_quiet (h28 _ _) ?_) | (refine callS_quiet (spec29 _ hto) ?_) | (refine callS_quiet (spec30 _ _) ?_) | (with_reducible refine newS_in ?_; intro _ hid_; simp only [upd_none] at hid_) | (with_reducible refine brC_in (fun h_ => ?_) (fun h_ => ?_)) | (with_reducible refine brG_in (fun h_ => ?_) (fun h_ => ?_)) | (with_reducible refine brN_in (fun h_ => ?_) (fun h_ => ?_)) | simp only [pvZ, lz, nz, rr_one, upd_apply, upd_upd, initT, optI, splice, reduceIte, reduceCtorEq, Nat.reduceEqDiff, Nat.reduceAdd, Nat.reduceSub, Nat.reduceMul, Nat.reduceLeDiff, Nat.reduceLT, Int.reduceLT, Int.reduceLE, Int.reduceToNat, Int.reduceEq, Int.cast_ofNat_Int, and_true, not_false_eq_true, *, -hmt, -hto, -h28, -hno, -hO, encMap, encEdit, encObj])
  all_goals (refine OutQ.eq (by repeat (first | exact SExt.refl _ | (refine SExt.old ?_ (by simp only [*]) _))) ?_)
  all_goals clear h28 hmt hm hto
  all_goals cases b
  all_goals first | (have h0 := hno rfl; subst h0; simp_all [showsF, droppedF, blankedF, movedF, putF, ron_on, nameB, farF, zeroObj]; done) | (simp_all [showsF, droppedF, blankedF, movedF, putF, ron_on, nameB, farF]; done)
theorem spec19 (a b : Edit) (kd : Int) {s : Nat → Option Blk} {k : Nat → Tk} (hl : a.obj.tags.length < 4611686018427387904) : Spec prg 19 [.agg (encEdit a), .agg (encEdit b), .int .i64 kd] s k (.bool (togF kd a b)) s k := by
  refine spec_tr prg_mixed tr_pref32_fit (Nat.le_of_ble_eq_true rfl) rfl ?_
  unfold pc_pref32_fit rs_pref32_fit
  repeat' (first | (refine callS_quiet (spec31 _ _ hl) ?_) | (with_reducible refine newS_in ?_; intro _ hid_; simp only [upd_none] at hid_) | (with_reducible refine brC_in (fun h_ => ?_) (fun h_ => ?_)) | (with_reducible refine brG_in (fun h_ => ?_) (fun h_ => ?_)) | (with_reducible refine brN_in (fun h_ => ?_) (fun h_ => ?_)) | simp only [pvZ, lz, nz, rr_one, upd_apply, upd_upd, initT, optI, splice, reduceIte, reduceCtorEq, Nat.reduceEqDiff, Nat.reduceAdd, Nat.reduceSub, Nat.reduceMul, Nat.reduceLeDiff, Nat.reduceLT, Int.reduceLT, Int.reduceLE, Int.reduceToNat, Int.reduceEq, Int.cast_ofNat_Int, and_true, not_false_eq_true, *, encEdit, eqCells, fitBs, fitB, Option.map_some, Bool.and_true, Bool.and_self])
  all_goals (refine OutQ.eq (by repeat (first | exact SExt.refl _ | (refine SExt.old ?_ (by simp only [*]) _))) ?_)
  all_goals simp_all [togF, alikeF, othersF]
end Go.Pv
