/- The law VerifyMatchesReference returns true. -/
import Derived.Test.YtgmdhegbkbeihaaLawQ
set_option linter.unusedVariables false
set_option linter.unusedSimpArgs false
set_option maxRecDepth 4000
set_option maxHeartbeats 1000000
namespace Go.Pv
open Go

theorem spec3 (m : List Obj) (l : List Edit) (e : Evid) {s : Nat → Option Blk} {k : Nat → Tk} : Spec prg 3 [.agg (encMap m), .sl 15 (l.map encEdit) .no, .agg (encEvid e)] s k (.bool true) s k := by
  refine spec_tr prg_mixed tr_plaw32_VerifyMatchesReference (Nat.le_of_ble_eq_true rfl) rfl ?_
  unfold pc_plaw32_VerifyMatchesReference rs_plaw32_VerifyMatchesReference
  have h7 := fun s k => @spec7 m l e s k
  simp only [encMap, encEvid] at h7
  repeat' (first | (refine callS_quiet (spec6) ?_) | (refine callS_quiet (h7 _ _) ?_) | (with_reducible refine newS_in ?_; intro _ hid_; simp only [upd_none] at hid_) | (with_reducible refine brC_in (fun h_ => ?_) (fun h_ => ?_)) | (with_reducible refine brG_in (fun h_ => ?_) (fun h_ => ?_)) | (with_reducible refine brN_in (fun h_ => ?_) (fun h_ => ?_)) | simp only [pvZ, lz, nz, rr_one, upd_apply, upd_upd, initT, optI, splice, reduceIte, reduceCtorEq, Nat.reduceEqDiff, Nat.reduceAdd, Nat.reduceSub, Nat.reduceMul, Nat.reduceLeDiff, Nat.reduceLT, Int.reduceLT, Int.reduceLE, Int.reduceToNat, Int.reduceEq, Int.cast_ofNat_Int, and_true, not_false_eq_true, *, -h7, encMap, encEvid])
  · refine OutQ.eq (by repeat (first | exact SExt.refl _ | (refine SExt.old ?_ (by simp only [*]) _))) rfl
  · have hb : fewA m l e = true := by simpa using h_
    obtain ⟨b1, b2, b3, b4, b5⟩ := few_bounds hb
    have h8 := fun s k => @spec8 m l e s k (by omega) (fun o ho => by have := b4 o ho; omega) (by omega) (fun o ho => by have := b5 o ho; omega)
    have h9 := fun s k => @spec9 m l e s k (by omega) (fun o ho => by have := b4 o ho; omega) (by omega) (fun o ho => by have := b5 o ho; omega)
    simp only [encMap, encEvid] at h8 h9
    refine callQS_quiet (h8 _ _) ?_
    repeat' (first | (with_reducible refine newS_in ?_; intro _ hid_; simp only [upd_none] at hid_) | (with_reducible refine brC_in (fun h_ => ?_) (fun h_ => ?_)) | (with_reducible refine brG_in (fun h_ => ?_) (fun h_ => ?_)) | (with_reducible refine brN_in (fun h_ => ?_) (fun h_ => ?_)) | simp only [pvZ, lz, nz, rr_one, upd_apply, upd_upd, initT, optI, splice, reduceIte, reduceCtorEq, Nat.reduceEqDiff, Nat.reduceAdd, Nat.reduceSub, Nat.reduceMul, Nat.reduceLeDiff, Nat.reduceLT, Int.reduceLT, Int.reduceLE, Int.reduceToNat, Int.reduceEq, Int.cast_ofNat_Int, and_true, not_false_eq_true, *, -h7, -h8, -h9, -b4, -b5])
    refine callQS_quiet (h9 _ _) ?_
    repeat' (first | (with_reducible refine newS_in ?_; intro _ hid_; simp only [upd_none] at hid_) | (with_reducible refine brC_in (fun h_ => ?_) (fun h_ => ?_)) | (with_reducible refine brG_in (fun h_ => ?_) (fun h_ => ?_)) | (with_reducible refine brN_in (fun h_ => ?_) (fun h_ => ?_)) | simp only [pvZ, lz, nz, rr_one, upd_apply, upd_upd, initT, optI, splice, reduceIte, reduceCtorEq, Nat.reduceEqDiff, Nat.reduceAdd, Nat.reduceSub, Nat.reduceMul, Nat.reduceLeDiff, Nat.reduceLT, Int.reduceLT, Int.reduceLE, Int.reduceToNat, Int.reduceEq, Int.cast_ofNat_Int, and_true, not_false_eq_true, *, -h7, -h8, -h9, -b4, -b5])
    refine OutQ.eq (by repeat (first | exact SExt.refl _ | (refine SExt.old ?_ (by simp only [*]) _))) ?_
    simp
end Go.Pv
