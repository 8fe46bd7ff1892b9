/- verify: alike, kinds, and what Accept asks of one more edit. -/
import Derived.Test.YtgmdhegbkbeihaaGreatLawD
set_option linter.unusedVariables false
set_option linter.unusedSimpArgs false
set_option maxRecDepth 4000
set_option maxHeartbeats 1000000
namespace Go.Pv
open Go

def alikeF (a b : Edit) : Bool := !decide (a.obj.id = b.obj.id) && (decide (a.obj.x = b.obj.x) && decide (a.obj.y = b.obj.y)) && decide (a.obj.tags = b.obj.tags)
theorem spec26 (a b : Edit) {s : Nat → Option Blk} {k : Nat → Tk} (hl : a.obj.tags.length < 4611686018427387904) : Spec prg 91 [.agg (encEdit a), .agg (encEdit b)] s k (.bool (alikeF a b)) s k := by
  refine spec_tr prg_mixed tr_verify_alike (Nat.le_of_ble_eq_true rfl) rfl ?_
  unfold pc_verify_alike rs_verify_alike
  repeat' (first | (refine callS_quiet (spec36 _ _ hl) ?_) | (first | (with_reducible refine newS_in ?_; intro _ hid_; simp only [upd_none] at hid_) | (with_reducible refine newR_in ?_; intro _ hid_ hih_; simp only [upd_none, upd_none', rr_eqs2, and_true] at hid_ hih_) | (with_reducible refine mkmS_in ?_; intro _ hid_; simp only [upd_none] at hid_)) | (with_reducible refine brC_in (fun h_ => ?_) (fun h_ => ?_)) | (with_reducible refine brG_in (fun h_ => ?_) (fun h_ => ?_)) | (with_reducible refine brN_in (fun h_ => ?_) (fun h_ => ?_)) | simp only [sZ, initT, optI, splice, reduceIte, reduceCtorEq, Nat.reduceEqDiff, Nat.reduceAdd, Nat.reduceSub, Nat.reduceMul, Nat.reduceLeDiff, Nat.reduceLT, Int.reduceLT, Int.reduceLE, Int.reduceToNat, Int.reduceEq, Int.cast_ofNat_Int, *, encEdit, eqCells, fitBs, fitB, Option.map_some, Bool.and_true, Bool.and_self])
  all_goals (refine OutQ.eq (by repeat (first | exact SExt.refl _ | (refine SExt.old ?_ (by first | (simp only [*]; done) | (simp only [upd_none]; assumption) | (simp only [upd_none, *, not_false_eq_true, and_self]; done)) _))) ?_)
  all_goals simp_all [alikeF]
def kindsA : List A := [.int .i64 0, .nilfn, .nilfn, .int .i64 5, .fn 86 [], .fn 87 [], .int .i64 3, .fn 88 [], .fn 87 [], .int .i64 3, .fn 89 [], .fn 87 [], .int .i64 4, .fn 90 [], .fn 91 []]
theorem spec15 {s : Nat → Option Blk} {k : Nat → Tk} : Spec prg 48 [] s k (.agg kindsA) s k := by
  refine spec_tr prg_mixed tr_verify_kinds (Nat.le_of_ble_eq_true rfl) rfl ?_
  unfold pc_verify_kinds rs_verify_kinds
  repeat' (first | (first | (with_reducible refine newS_in ?_; intro _ hid_; simp only [upd_none] at hid_) | (with_reducible refine newR_in ?_; intro _ hid_ hih_; simp only [upd_none, upd_none', rr_eqs2, and_true] at hid_ hih_) | (with_reducible refine mkmS_in ?_; intro _ hid_; simp only [upd_none] at hid_)) | (with_reducible refine brC_in (fun h_ => ?_) (fun h_ => ?_)) | (with_reducible refine brG_in (fun h_ => ?_) (fun h_ => ?_)) | (with_reducible refine brN_in (fun h_ => ?_) (fun h_ => ?_)) | simp only [sZ, initT, optI, splice, reduceIte, reduceCtorEq, Nat.reduceEqDiff, Nat.reduceAdd, Nat.reduceSub, Nat.reduceMul, Nat.reduceLeDiff, Nat.reduceLT, Int.reduceLT, Int.reduceLE, Int.reduceToNat, Int.reduceEq, Int.cast_ofNat_Int, *])
  all_goals (refine OutQ.eq (by repeat (first | exact SExt.refl _ | (refine SExt.old ?_ (by first | (simp only [*]; done) | (simp only [upd_none]; assumption) | (simp only [upd_none, *, not_false_eq_true, and_self]; done)) _))) rfl)
end Go.Pv
