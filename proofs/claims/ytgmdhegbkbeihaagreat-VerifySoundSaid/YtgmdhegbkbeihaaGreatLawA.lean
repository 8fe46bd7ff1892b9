/- The small functions of verify. -/
import Derived.Test.YtgmdhegbkbeihaaGreatCor
set_option linter.unusedVariables false
set_option linter.unusedSimpArgs false
set_option maxRecDepth 4000
set_option maxHeartbeats 1000000
namespace Go.Pv
open Go

theorem spec38 (o : Obj) (i : ByteArray) {s : Nat → Option Blk} {k : Nat → Tk} {id : Nat} (h : s id = some (.cells [.str i])) :
    Spec prg 151 [.agg (encObj o), .ptr id 0] s k (.bool (decide (o.id = i))) s k := by
  refine spec_tr prg_mixed tr_verify_object_1 (Nat.le_of_ble_eq_true rfl) rfl ?_
  unfold pc_verify_object_1 rs_verify_object_1
  simp only [sZ, initT, optI, splice, reduceIte, reduceCtorEq, Nat.reduceEqDiff, Nat.reduceAdd, Nat.reduceSub, Nat.reduceMul, Nat.reduceLeDiff, Nat.reduceLT, Int.reduceLT, Int.reduceLE, Int.reduceToNat, Int.reduceEq, Int.cast_ofNat_Int, encObj]
  with_reducible refine newS_in ?_
  intro b hb
  simp only [] at hb
  have : ¬ id = b := fun e => by subst e; rw [h] at hb; cases hb
  simp only [sZ, initT, optI, splice, reduceIte, reduceCtorEq, Nat.reduceEqDiff, Nat.reduceAdd, Nat.reduceSub, Nat.reduceMul, Nat.reduceLeDiff, Nat.reduceLT, Int.reduceLT, Int.reduceLE, Int.reduceToNat, Int.reduceEq, Int.cast_ofNat_Int, this, h]
  refine OutQ.eq (SExt.old (SExt.refl _) hb _) rfl
theorem spec37 (l : List Obj) (p : Obj → Bool) (fid : FuncId) (caps : List A) {s : Nat → Option Blk} {k : Nat → Tk} (hl : l.length < 4611686018427387904) (hp : ∀ o ∈ l, Spec prg fid (.agg (encObj o) :: caps) s k (.bool (p o)) s k) :
    Spec prg 102 [.sl 6 (l.map encObj) .no, .fn fid caps] s k (.int .i64 (idxOf p l)) s k := spec_idx objE tr_slices_IndexFunc_Object (Nat.le_of_ble_eq_true rfl) l p fid caps hl hp
theorem spec39 (l : List Tag) (p : Tag → Bool) (fid : FuncId) (caps : List A) {s : Nat → Option Blk} {k : Nat → Tk} (hl : l.length < 4611686018427387904) (hp : ∀ o ∈ l, Spec prg fid (.agg (encTag o) :: caps) s k (.bool (p o)) s k) :
    Spec prg 152 [.sl 2 (l.map encTag) .no, .fn fid caps] s k (.int .i64 (idxOf p l)) s k := spec_idx tagE tr_slices_IndexFunc_Tag (Nat.le_of_ble_eq_true rfl) l p fid caps hl hp
def onF (x y : Int) : Bool := decide (0 ≤ min x y) && decide (max x y < 1048576)
theorem spec35 (x y : Int) {s : Nat → Option Blk} {k : Nat → Tk} : Spec prg 120 [.agg [.int .i64 x, .int .i64 y]] s k (.bool (onF x y)) s k := by
  refine spec_tr prg_mixed tr_verify_on (Nat.le_of_ble_eq_true rfl) rfl ?_
  unfold pc_verify_on rs_verify_on
  repeat' (first | (first | (with_reducible refine newS_in ?_; intro _ hid_; simp only [upd_none] at hid_) | (with_reducible refine newR_in ?_; intro _ hid_ hih_; simp only [upd_none, upd_none', rr_eqs2, and_true] at hid_ hih_) | (with_reducible refine mkmS_in ?_; intro _ hid_; simp only [upd_none] at hid_)) | (with_reducible refine brC_in (fun h_ => ?_) (fun h_ => ?_)) | (with_reducible refine brG_in (fun h_ => ?_) (fun h_ => ?_)) | (with_reducible refine brN_in (fun h_ => ?_) (fun h_ => ?_)) | simp only [sZ, initT, optI, splice, reduceIte, reduceCtorEq, Nat.reduceEqDiff, Nat.reduceAdd, Nat.reduceSub, Nat.reduceMul, Nat.reduceLeDiff, Nat.reduceLT, Int.reduceLT, Int.reduceLE, Int.reduceToNat, Int.reduceEq, Int.cast_ofNat_Int, *])
  all_goals (refine OutQ.eq (by repeat (first | exact SExt.refl _ | (refine SExt.old ?_ (by first | (simp only [*]; done) | (simp only [upd_none]; assumption) | (simp only [upd_none, *, not_false_eq_true, and_self]; done)) _))) ?_)
  all_goals simp [onF, *]
theorem spec34 (t : Tag) {s : Nat → Option Blk} {k : Nat → Tk} : Spec prg 119 [.agg (encTag t)] s k (.bool (decide (t.key = ⟨#[110, 97, 109, 101]⟩))) s k := by
  refine spec_tr prg_mixed tr_verify_blanked_1 (Nat.le_of_ble_eq_true rfl) rfl ?_
  unfold pc_verify_blanked_1 rs_verify_blanked_1
  repeat' (first | (first | (with_reducible refine newS_in ?_; intro _ hid_; simp only [upd_none] at hid_) | (with_reducible refine newR_in ?_; intro _ hid_ hih_; simp only [upd_none, upd_none', rr_eqs2, and_true] at hid_ hih_) | (with_reducible refine mkmS_in ?_; intro _ hid_; simp only [upd_none] at hid_)) | (with_reducible refine brC_in (fun h_ => ?_) (fun h_ => ?_)) | (with_reducible refine brG_in (fun h_ => ?_) (fun h_ => ?_)) | (with_reducible refine brN_in (fun h_ => ?_) (fun h_ => ?_)) | simp only [sZ, initT, optI, splice, reduceIte, reduceCtorEq, Nat.reduceEqDiff, Nat.reduceAdd, Nat.reduceSub, Nat.reduceMul, Nat.reduceLeDiff, Nat.reduceLT, Int.reduceLT, Int.reduceLE, Int.reduceToNat, Int.reduceEq, Int.cast_ofNat_Int, *, encTag])
  all_goals (refine OutQ.eq (by repeat (first | exact SExt.refl _ | (refine SExt.old ?_ (by first | (simp only [*]; done) | (simp only [upd_none]; assumption) | (simp only [upd_none, *, not_false_eq_true, and_self]; done)) _))) rfl)
def putF (e : Edit) : Bool := decide (e.op = 1) && decide (e.obj.kind = 1)
theorem spec25 (m : List Obj) (e : Edit) {s : Nat → Option Blk} {k : Nat → Tk} : Spec prg 90 [.agg (encMap m), .agg (encEdit e)] s k (.bool (putF e)) s k := by
  refine spec_tr prg_mixed tr_verify_put (Nat.le_of_ble_eq_true rfl) rfl ?_
  unfold pc_verify_put rs_verify_put
  repeat' (first | (first | (with_reducible refine newS_in ?_; intro _ hid_; simp only [upd_none] at hid_) | (with_reducible refine newR_in ?_; intro _ hid_ hih_; simp only [upd_none, upd_none', rr_eqs2, and_true] at hid_ hih_) | (with_reducible refine mkmS_in ?_; intro _ hid_; simp only [upd_none] at hid_)) | (with_reducible refine brC_in (fun h_ => ?_) (fun h_ => ?_)) | (with_reducible refine brG_in (fun h_ => ?_) (fun h_ => ?_)) | (with_reducible refine brN_in (fun h_ => ?_) (fun h_ => ?_)) | simp only [sZ, initT, optI, splice, reduceIte, reduceCtorEq, Nat.reduceEqDiff, Nat.reduceAdd, Nat.reduceSub, Nat.reduceMul, Nat.reduceLeDiff, Nat.reduceLT, Int.reduceLT, Int.reduceLE, Int.reduceToNat, Int.reduceEq, Int.cast_ofNat_Int, *, encMap, encEdit])
  all_goals (refine OutQ.eq (by repeat (first | exact SExt.refl _ | (refine SExt.old ?_ (by first | (simp only [*]; done) | (simp only [upd_none]; assumption) | (simp only [upd_none, *, not_false_eq_true, and_self]; done)) _))) ?_)
  all_goals simp [putF, *]
def othersF (a b : Edit) : Bool := !decide (a.id = b.id)
theorem spec22 (a b : Edit) {s : Nat → Option Blk} {k : Nat → Tk} : Spec prg 87 [.agg (encEdit a), .agg (encEdit b)] s k (.bool (othersF a b)) s k := by
  refine spec_tr prg_mixed tr_verify_others (Nat.le_of_ble_eq_true rfl) rfl ?_
  unfold pc_verify_others rs_verify_others
  repeat' (first | (first | (with_reducible refine newS_in ?_; intro _ hid_; simp only [upd_none] at hid_) | (with_reducible refine newR_in ?_; intro _ hid_ hih_; simp only [upd_none, upd_none', rr_eqs2, and_true] at hid_ hih_) | (with_reducible refine mkmS_in ?_; intro _ hid_; simp only [upd_none] at hid_)) | (with_reducible refine brC_in (fun h_ => ?_) (fun h_ => ?_)) | (with_reducible refine brG_in (fun h_ => ?_) (fun h_ => ?_)) | (with_reducible refine brN_in (fun h_ => ?_) (fun h_ => ?_)) | simp only [sZ, initT, optI, splice, reduceIte, reduceCtorEq, Nat.reduceEqDiff, Nat.reduceAdd, Nat.reduceSub, Nat.reduceMul, Nat.reduceLeDiff, Nat.reduceLT, Int.reduceLT, Int.reduceLE, Int.reduceToNat, Int.reduceEq, Int.cast_ofNat_Int, *, encMap, encEdit])
  all_goals (refine OutQ.eq (by repeat (first | exact SExt.refl _ | (refine SExt.old ?_ (by first | (simp only [*]; done) | (simp only [upd_none]; assumption) | (simp only [upd_none, *, not_false_eq_true, and_self]; done)) _))) rfl)
end Go.Pv
