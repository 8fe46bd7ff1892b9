/- The functions of verify. -/
import Derived.Test.YtgmdhegbkbeihaaLawB
set_option linter.unusedVariables false
set_option linter.unusedSimpArgs false
set_option maxRecDepth 4000
set_option maxHeartbeats 1000000
namespace Go.Pv
open Go

structure Edit where
  op : Int
  id : ByteArray
  other : ByteArray
  node : ByteArray
  x : Int
  y : Int
  key : ByteArray
  val : ByteArray
  refs : List ByteArray
  obj : Obj
def encEdit (e : Edit) : List A := [.int .i64 e.op, .str e.id, .str e.other, .str e.node, .int .i64 e.x, .int .i64 e.y, .str e.key, .str e.val, .sl 1 (e.refs.map encStr) .no,
  .str e.obj.id, .int .i64 e.obj.kind, .int .i64 e.obj.x, .int .i64 e.obj.y, .sl 1 (e.obj.refs.map encStr) .no, .sl 2 (e.obj.tags.map encTag) .no]
def editE : Enc Edit := ⟨encEdit, 15, fun _ => rfl, fun _ => rfl⟩
theorem len_encEdit (e : Edit) : (encEdit e).length = 15 := rfl
theorem wh_encEdit (o : Edit) : List.map A.strip (List.take 15 (encEdit o)) = encEdit o := rfl
theorem st_encEdit (o : Edit) : List.map A.strip (encEdit o) = encEdit o := rfl

def onF (x y : Int) : Bool := decide (0 ≤ min x y) && decide (max x y < 1048576)
theorem spec35 (x y : Int) {s : Nat → Option Blk} {k : Nat → Tk} : Spec prg 35 [.agg [.int .i64 x, .int .i64 y]] s k (.bool (onF x y)) s k := by
  refine spec_tr prg_mixed tr_verify_on (Nat.le_of_ble_eq_true rfl) rfl ?_
  unfold pc_verify_on rs_verify_on
  repeat' (first | (with_reducible refine newS_in ?_; intro _ hid_; simp only [upd_none] at hid_) | (with_reducible refine brC_in (fun h_ => ?_) (fun h_ => ?_)) | (with_reducible refine brG_in (fun h_ => ?_) (fun h_ => ?_)) | (with_reducible refine brN_in (fun h_ => ?_) (fun h_ => ?_)) | simp only [pvZ, lz, nz, rr_one, upd_apply, upd_upd, initT, optI, splice, reduceIte, reduceCtorEq, Nat.reduceEqDiff, Nat.reduceAdd, Nat.reduceSub, Nat.reduceMul, Nat.reduceLeDiff, Nat.reduceLT, Int.reduceLT, Int.reduceLE, Int.reduceToNat, Int.reduceEq, Int.cast_ofNat_Int, and_true, not_false_eq_true, *])
  all_goals (refine OutQ.eq (by repeat (first | exact SExt.refl _ | (refine SExt.old ?_ (by simp only [*]) _))) ?_)
  all_goals simp [onF, *]
theorem spec34 (t : Tag) {s : Nat → Option Blk} {k : Nat → Tk} : Spec prg 34 [.agg (encTag t)] s k (.bool (decide (t.key = ⟨#[110, 97, 109, 101]⟩))) s k := by
  refine spec_tr prg_mixed tr_verify_blanked_1 (Nat.le_of_ble_eq_true rfl) rfl ?_
  unfold pc_verify_blanked_1 rs_verify_blanked_1
  repeat' (first | (with_reducible refine newS_in ?_; intro _ hid_; simp only [upd_none] at hid_) | (with_reducible refine brC_in (fun h_ => ?_) (fun h_ => ?_)) | (with_reducible refine brG_in (fun h_ => ?_) (fun h_ => ?_)) | (with_reducible refine brN_in (fun h_ => ?_) (fun h_ => ?_)) | simp only [pvZ, lz, nz, rr_one, upd_apply, upd_upd, initT, optI, splice, reduceIte, reduceCtorEq, Nat.reduceEqDiff, Nat.reduceAdd, Nat.reduceSub, Nat.reduceMul, Nat.reduceLeDiff, Nat.reduceLT, Int.reduceLT, Int.reduceLE, Int.reduceToNat, Int.reduceEq, Int.cast_ofNat_Int, and_true, not_false_eq_true, *, encTag])
  all_goals (refine OutQ.eq (by repeat (first | exact SExt.refl _ | (refine SExt.old ?_ (by simp only [*]) _))) rfl)
def putF (e : Edit) : Bool := decide (e.op = 1) && decide (e.obj.kind = 1)
theorem spec25 (m : List Obj) (e : Edit) {s : Nat → Option Blk} {k : Nat → Tk} : Spec prg 25 [.agg (encMap m), .agg (encEdit e)] s k (.bool (putF e)) s k := by
  refine spec_tr prg_mixed tr_verify_put (Nat.le_of_ble_eq_true rfl) rfl ?_
  unfold pc_verify_put rs_verify_put
  repeat' (first | (with_reducible refine newS_in ?_; intro _ hid_; simp only [upd_none] at hid_) | (with_reducible refine brC_in (fun h_ => ?_) (fun h_ => ?_)) | (with_reducible refine brG_in (fun h_ => ?_) (fun h_ => ?_)) | (with_reducible refine brN_in (fun h_ => ?_) (fun h_ => ?_)) | simp only [pvZ, lz, nz, rr_one, upd_apply, upd_upd, initT, optI, splice, reduceIte, reduceCtorEq, Nat.reduceEqDiff, Nat.reduceAdd, Nat.reduceSub, Nat.reduceMul, Nat.reduceLeDiff, Nat.reduceLT, Int.reduceLT, Int.reduceLE, Int.reduceToNat, Int.reduceEq, Int.cast_ofNat_Int, and_true, not_false_eq_true, *, encMap, encEdit])
  all_goals (refine OutQ.eq (by repeat (first | exact SExt.refl _ | (refine SExt.old ?_ (by simp only [*]) _))) ?_)
  all_goals simp [putF, *]
def othersF (a b : Edit) : Bool := !decide (a.id = b.id)
theorem spec22 (a b : Edit) {s : Nat → Option Blk} {k : Nat → Tk} : Spec prg 22 [.agg (encEdit a), .agg (encEdit b)] s k (.bool (othersF a b)) s k := by
  refine spec_tr prg_mixed tr_verify_others (Nat.le_of_ble_eq_true rfl) rfl ?_
  unfold pc_verify_others rs_verify_others
  repeat' (first | (with_reducible refine newS_in ?_; intro _ hid_; simp only [upd_none] at hid_) | (with_reducible refine brC_in (fun h_ => ?_) (fun h_ => ?_)) | (with_reducible refine brG_in (fun h_ => ?_) (fun h_ => ?_)) | (with_reducible refine brN_in (fun h_ => ?_) (fun h_ => ?_)) | simp only [pvZ, lz, nz, rr_one, upd_apply, upd_upd, initT, optI, splice, reduceIte, reduceCtorEq, Nat.reduceEqDiff, Nat.reduceAdd, Nat.reduceSub, Nat.reduceMul, Nat.reduceLeDiff, Nat.reduceLT, Int.reduceLT, Int.reduceLE, Int.reduceToNat, Int.reduceEq, Int.cast_ofNat_Int, and_true, not_false_eq_true, *, encMap, encEdit])
  all_goals (refine OutQ.eq (by repeat (first | exact SExt.refl _ | (refine SExt.old ?_ (by simp only [*]) _))) rfl)
end Go.Pv
