/- The reference's Accept is the program's. -/
import Derived.Test.YtgmdhegbkbeihaaLawJ
set_option linter.unusedVariables false
set_option linter.unusedSimpArgs false
set_option maxRecDepth 4000
set_option maxHeartbeats 1000000
namespace Go.Pv
open Go

theorem spec9 (m : List Obj) (l : List Edit) (e : Evid) {s : Nat → Option Blk} {k : Nat → Tk} (hm : m.length < 4611686018427387904) (hmt : ∀ o ∈ m, o.tags.length < 4611686018427387904) (hl : l.length < 2305843009213693952) (hlt : ∀ e ∈ l, e.obj.tags.length < 4611686018427387904) :
    Spec prg 9 [.agg (encMap m), .sl 15 (l.map encEdit) .no, .agg (encEvid e)] s k (.bool (acceptF m l e)) s k := by
  refine spec_tr prg_mixed tr_pref32_Accept (Nat.le_of_ble_eq_true rfl) rfl ?_
  unfold pc_pref32_Accept rs_pref32_Accept
  obtain ⟨kd, es⟩ := e
  have hcase : kd < 1 ∨ 4 < kd ∨ kd = 1 ∨ kd = 2 ∨ kd = 3 ∨ kd = 4 := by omega
  have hl2 : l.length < 4611686018427387904 := by omega
  rcases hcase with h | h | rfl | rfl | rfl | rfl
  · have e1 : ¬ 1 ≤ kd := by omega
    repeat' (first | (with_reducible refine newS_in ?_; intro _ hid_; simp only [upd_none] at hid_) | (with_reducible refine brC_in (fun h_ => ?_) (fun h_ => ?_)) | (with_reducible refine brG_in (fun h_ => ?_) (fun h_ => ?_)) | (with_reducible refine brN_in (fun h_ => ?_) (fun h_ => ?_)) | simp only [pvZ, lz, nz, rr_one, upd_apply, upd_upd, initT, optI, splice, reduceIte, reduceCtorEq, Nat.reduceEqDiff, Nat.reduceAdd, Nat.reduceSub, Nat.reduceMul, Nat.reduceLeDiff, Nat.reduceLT, Int.reduceLT, Int.reduceLE, Int.reduceToNat, Int.reduceEq, Int.cast_ofNat_Int, and_true, not_false_eq_true, *, -hmt, -hlt, encMap, encEvid])
    refine OutQ.eq (by repeat (first | exact SExt.refl _ | (refine SExt.old ?_ (by simp only [*]) _))) ?_
    simp [acceptF, e1]
  · have e1 : ¬ kd ≤ 4 := by omega
    have e2 : ¬ kd < 1 := by omega
    repeat' (first | (with_reducible refine newS_in ?_; intro _ hid_; simp only [upd_none] at hid_) | (with_reducible refine brC_in (fun h_ => ?_) (fun h_ => ?_)) | (with_reducible refine brG_in (fun h_ => ?_) (fun h_ => ?_)) | (with_reducible refine brN_in (fun h_ => ?_) (fun h_ => ?_)) | simp only [pvZ, lz, nz, rr_one, upd_apply, upd_upd, initT, optI, splice, reduceIte, reduceCtorEq, Nat.reduceEqDiff, Nat.reduceAdd, Nat.reduceSub, Nat.reduceMul, Nat.reduceLeDiff, Nat.reduceLT, Int.reduceLT, Int.reduceLE, Int.reduceToNat, Int.reduceEq, Int.cast_ofNat_Int, and_true, not_false_eq_true, *, -hmt, -hlt, encMap, encEvid])
    refine OutQ.eq (by repeat (first | exact SExt.refl _ | (refine SExt.old ?_ (by simp only [*]) _))) ?_
    simp [acceptF, e1]
  · repeat' (first | (with_reducible refine newS_in ?_; intro _ hid_; simp only [upd_none] at hid_) | (with_reducible refine brC_in (fun h_ => ?_) (fun h_ => ?_)) | (with_reducible refine brG_in (fun h_ => ?_) (fun h_ => ?_)) | (with_reducible refine brN_in (fun h_ => ?_) (fun h_ => ?_)) | simp only [pvZ, lz, nz, rr_one, upd_apply, upd_upd, initT, optI, splice, reduceIte, reduceCtorEq, Nat.reduceEqDiff, Nat.reduceAdd, Nat.reduceSub, Nat.reduceMul, Nat.reduceLeDiff, Nat.reduceLT, Int.reduceLT, Int.reduceLE, Int.reduceToNat, Int.reduceEq, Int.cast_ofNat_Int, and_true, not_false_eq_true, *, -hmt, -hlt, encMap, encEvid])
    · have e1 : ¬ (es.length : Int) = 5 := by simpa using h_
      refine OutQ.eq (by repeat (first | exact SExt.refl _ | (refine SExt.old ?_ (by simp only [*]) _))) ?_
      simp [acceptF, manyF, e1]
    · have e1 : (es.length : Int) = 5 := by simpa using h_
      have hd : dropsF l ≤ l.length := List.countP_le_length
      refine ref0 l hl2 rfl rfl rfl fun t' k1 k3 k5 k8 => ?_
      simp only [upd_apply, Nat.reduceEqDiff, reduceIte, initT, List.getElem?_cons_zero, List.getElem?_cons_succ, Option.getD_some] at k1 k3 k5
      simp only [pvZ, lz, nz, rr_one, upd_apply, upd_upd, initT, optI, splice, reduceIte, reduceCtorEq, Nat.reduceEqDiff, Nat.reduceAdd, Nat.reduceSub, Nat.reduceMul, Nat.reduceLeDiff, Nat.reduceLT, Int.reduceLT, Int.reduceLE, Int.reduceToNat, Int.reduceEq, Int.cast_ofNat_Int, and_true, not_false_eq_true, k1, k3, k5, k8, *, -hmt, -hlt, -hd]
      have hw : IntKind.i64.wrap (2 * (dropsF l : Int)) = 2 * dropsF l := wrap64 (by omega) (by omega)
      simp only [pvZ, lz, nz, rr_one, upd_apply, upd_upd, initT, optI, splice, reduceIte, reduceCtorEq, Nat.reduceEqDiff, Nat.reduceAdd, Nat.reduceSub, Nat.reduceMul, Nat.reduceLeDiff, Nat.reduceLT, Int.reduceLT, Int.reduceLE, Int.reduceToNat, Int.reduceEq, Int.cast_ofNat_Int, and_true, not_false_eq_true, hw]
      refine brC_in (fun q1 => ?_) (fun q0 => ?_)
      · have e2 : ¬ ((l.length : Int) - dropsF l < dropsF l) := by
          simp at q1
          omega
        simp only [pvZ, lz, nz, rr_one, upd_apply, upd_upd, initT, optI, splice, reduceIte, reduceCtorEq, Nat.reduceEqDiff, Nat.reduceAdd, Nat.reduceSub, Nat.reduceMul, Nat.reduceLeDiff, Nat.reduceLT, Int.reduceLT, Int.reduceLE, Int.reduceToNat, Int.reduceEq, Int.cast_ofNat_Int, and_true, not_false_eq_true]
        refine OutQ.eq (by repeat (first | exact SExt.refl _ | (refine SExt.old ?_ (by simp only [*]) _))) ?_
        simp [acceptF, e2]
      · have e2 : (l.length : Int) - dropsF l < dropsF l := by
          simp at q0
          omega
        simp only [pvZ, lz, nz, rr_one, upd_apply, upd_upd, initT, optI, splice, reduceIte, reduceCtorEq, Nat.reduceEqDiff, Nat.reduceAdd, Nat.reduceSub, Nat.reduceMul, Nat.reduceLeDiff, Nat.reduceLT, Int.reduceLT, Int.reduceLE, Int.reduceToNat, Int.reduceEq, Int.cast_ofNat_Int, and_true, not_false_eq_true, k1, k3, k5, k8]
        refine ref1 m l ⟨1, es⟩ hm hmt hl2 hlt (show es.length ≤ 10 by omega) (by simp only [upd_apply, Nat.reduceEqDiff, reduceIte]; exact k1) (by simp only [upd_apply, Nat.reduceEqDiff, reduceIte]; exact k3) (by simp only [upd_apply, Nat.reduceEqDiff, reduceIte]; exact k5) (by simp only [upd_apply, Nat.reduceEqDiff, reduceIte]) (by simp only [upd_apply, *, reduceIte, encMap]) (by simp only [upd_apply, *, reduceIte, encEvid]) ?_ ?_
        · intro hgo t2 h6
          simp only [pvZ, lz, nz, rr_one, upd_apply, upd_upd, initT, optI, splice, reduceIte, reduceCtorEq, Nat.reduceEqDiff, Nat.reduceAdd, Nat.reduceSub, Nat.reduceMul, Nat.reduceLeDiff, Nat.reduceLT, Int.reduceLT, Int.reduceLE, Int.reduceToNat, Int.reduceEq, Int.cast_ofNat_Int, and_true, not_false_eq_true, h6]
          refine OutQ.eq (by repeat (first | exact SExt.refl _ | (refine SExt.old ?_ (by simp only [*]) _))) ?_
          simp [acceptF, hgo]
        · intro hgo t2
          simp only [pvZ, lz, nz, rr_one, upd_apply, upd_upd, initT, optI, splice, reduceIte, reduceCtorEq, Nat.reduceEqDiff, Nat.reduceAdd, Nat.reduceSub, Nat.reduceMul, Nat.reduceLeDiff, Nat.reduceLT, Int.reduceLT, Int.reduceLE, Int.reduceToNat, Int.reduceEq, Int.cast_ofNat_Int, and_true, not_false_eq_true]
          refine OutQ.eq (by repeat (first | exact SExt.refl _ | (refine SExt.old ?_ (by simp only [*]) _))) ?_
          simp only [] at hgo
          simp [acceptF, manyF, hgo, e1, e2]
  · repeat' (first | (with_reducible refine newS_in ?_; intro _ hid_; simp only [upd_none] at hid_) | (with_reducible refine brC_in (fun h_ => ?_) (fun h_ => ?_)) | (with_reducible refine brG_in (fun h_ => ?_) (fun h_ => ?_)) | (with_reducible refine brN_in (fun h_ => ?_) (fun h_ => ?_)) | simp only [pvZ, lz, nz, rr_one, upd_apply, upd_upd, initT, optI, splice, reduceIte, reduceCtorEq, Nat.reduceEqDiff, Nat.reduceAdd, Nat.reduceSub, Nat.reduceMul, Nat.reduceLeDiff, Nat.reduceLT, Int.reduceLT, Int.reduceLE, Int.reduceToNat, Int.reduceEq, Int.cast_ofNat_Int, and_true, not_false_eq_true, *, -hmt, -hlt, encMap, encEvid])
    · have e1 : ¬ (es.length : Int) = 3 := by simpa using h_
      refine OutQ.eq (by repeat (first | exact SExt.refl _ | (refine SExt.old ?_ (by simp only [*]) _))) ?_
      simp [acceptF, manyF, e1]
    · have e1 : (es.length : Int) = 3 := by simpa using h_
      have hd : dropsF l ≤ l.length := List.countP_le_length
      refine ref0 l hl2 rfl rfl rfl fun t' k1 k3 k5 k8 => ?_
      simp only [upd_apply, Nat.reduceEqDiff, reduceIte, initT, List.getElem?_cons_zero, List.getElem?_cons_succ, Option.getD_some] at k1 k3 k5
      simp only [pvZ, lz, nz, rr_one, upd_apply, upd_upd, initT, optI, splice, reduceIte, reduceCtorEq, Nat.reduceEqDiff, Nat.reduceAdd, Nat.reduceSub, Nat.reduceMul, Nat.reduceLeDiff, Nat.reduceLT, Int.reduceLT, Int.reduceLE, Int.reduceToNat, Int.reduceEq, Int.cast_ofNat_Int, and_true, not_false_eq_true, k1, k3, k5, k8, *, -hmt, -hlt, -hd]
      refine ref1 m l ⟨2, es⟩ hm hmt hl2 hlt (show es.length ≤ 10 by omega) (by simp only [upd_apply, Nat.reduceEqDiff, reduceIte]; exact k1) (by simp only [upd_apply, Nat.reduceEqDiff, reduceIte]; exact k3) (by simp only [upd_apply, Nat.reduceEqDiff, reduceIte]; exact k5) (by simp only [upd_apply, Nat.reduceEqDiff, reduceIte]) (by simp only [upd_apply, *, reduceIte, encMap]) (by simp only [upd_apply, *, reduceIte, encEvid]) ?_ ?_
      · intro hgo t2 h6
        simp only [pvZ, lz, nz, rr_one, upd_apply, upd_upd, initT, optI, splice, reduceIte, reduceCtorEq, Nat.reduceEqDiff, Nat.reduceAdd, Nat.reduceSub, Nat.reduceMul, Nat.reduceLeDiff, Nat.reduceLT, Int.reduceLT, Int.reduceLE, Int.reduceToNat, Int.reduceEq, Int.cast_ofNat_Int, and_true, not_false_eq_true, h6]
        refine OutQ.eq (by repeat (first | exact SExt.refl _ | (refine SExt.old ?_ (by simp only [*]) _))) ?_
        simp [acceptF, hgo]
      · intro hgo t2
        simp only [pvZ, lz, nz, rr_one, upd_apply, upd_upd, initT, optI, splice, reduceIte, reduceCtorEq, Nat.reduceEqDiff, Nat.reduceAdd, Nat.reduceSub, Nat.reduceMul, Nat.reduceLeDiff, Nat.reduceLT, Int.reduceLT, Int.reduceLE, Int.reduceToNat, Int.reduceEq, Int.cast_ofNat_Int, and_true, not_false_eq_true]
        refine OutQ.eq (by repeat (first | exact SExt.refl _ | (refine SExt.old ?_ (by simp only [*]) _))) ?_
        simp only [] at hgo
        simp [acceptF, manyF, hgo, e1]
  · repeat' (first | (with_reducible refine newS_in ?_; intro _ hid_; simp only [upd_none] at hid_) | (with_reducible refine brC_in (fun h_ => ?_) (fun h_ => ?_)) | (with_reducible refine brG_in (fun h_ => ?_) (fun h_ => ?_)) | (with_reducible refine brN_in (fun h_ => ?_) (fun h_ => ?_)) | simp only [pvZ, lz, nz, rr_one, upd_apply, upd_upd, initT, optI, splice, reduceIte, reduceCtorEq, Nat.reduceEqDiff, Nat.reduceAdd, Nat.reduceSub, Nat.reduceMul, Nat.reduceLeDiff, Nat.reduceLT, Int.reduceLT, Int.reduceLE, Int.reduceToNat, Int.reduceEq, Int.cast_ofNat_Int, and_true, not_false_eq_true, *, -hmt, -hlt, encMap, encEvid])
    · have e1 : ¬ (es.length : Int) = 3 := by simpa using h_
      refine OutQ.eq (by repeat (first | exact SExt.refl _ | (refine SExt.old ?_ (by simp only [*]) _))) ?_
      simp [acceptF, manyF, e1]
    · have e1 : (es.length : Int) = 3 := by simpa using h_
      have hd : dropsF l ≤ l.length := List.countP_le_length
      refine ref0 l hl2 rfl rfl rfl fun t' k1 k3 k5 k8 => ?_
      simp only [upd_apply, Nat.reduceEqDiff, reduceIte, initT, List.getElem?_cons_zero, List.getElem?_cons_succ, Option.getD_some] at k1 k3 k5
      simp only [pvZ, lz, nz, rr_one, upd_apply, upd_upd, initT, optI, splice, reduceIte, reduceCtorEq, Nat.reduceEqDiff, Nat.reduceAdd, Nat.reduceSub, Nat.reduceMul, Nat.reduceLeDiff, Nat.reduceLT, Int.reduceLT, Int.reduceLE, Int.reduceToNat, Int.reduceEq, Int.cast_ofNat_Int, and_true, not_false_eq_true, k1, k3, k5, k8, *, -hmt, -hlt, -hd]
      refine ref1 m l ⟨3, es⟩ hm hmt hl2 hlt (show es.length ≤ 10 by omega) (by simp only [upd_apply, Nat.reduceEqDiff, reduceIte]; exact k1) (by simp only [upd_apply, Nat.reduceEqDiff, reduceIte]; exact k3) (by simp only [upd_apply, Nat.reduceEqDiff, reduceIte]; exact k5) (by simp only [upd_apply, Nat.reduceEqDiff, reduceIte]) (by simp only [upd_apply, *, reduceIte, encMap]) (by simp only [upd_apply, *, reduceIte, encEvid]) ?_ ?_
      · intro hgo t2 h6
        simp only [pvZ, lz, nz, rr_one, upd_apply, upd_upd, initT, optI, splice, reduceIte, reduceCtorEq, Nat.reduceEqDiff, Nat.reduceAdd, Nat.reduceSub, Nat.reduceMul, Nat.reduceLeDiff, Nat.reduceLT, Int.reduceLT, Int.reduceLE, Int.reduceToNat, Int.reduceEq, Int.cast_ofNat_Int, and_true, not_false_eq_true, h6]
        refine OutQ.eq (by repeat (first | exact SExt.refl _ | (refine SExt.old ?_ (by simp only [*]) _))) ?_
        simp [acceptF, hgo]
      · intro hgo t2
        simp only [pvZ, lz, nz, rr_one, upd_apply, upd_upd, initT, optI, splice, reduceIte, reduceCtorEq, Nat.reduceEqDiff, Nat.reduceAdd, Nat.reduceSub, Nat.reduceMul, Nat.reduceLeDiff, Nat.reduceLT, Int.reduceLT, Int.reduceLE, Int.reduceToNat, Int.reduceEq, Int.cast_ofNat_Int, and_true, not_false_eq_true]
        refine OutQ.eq (by repeat (first | exact SExt.refl _ | (refine SExt.old ?_ (by simp only [*]) _))) ?_
        simp only [] at hgo
        simp [acceptF, manyF, hgo, e1]
  · repeat' (first | (with_reducible refine newS_in ?_; intro _ hid_; simp only [upd_none] at hid_) | (with_reducible refine brC_in (fun h_ => ?_) (fun h_ => ?_)) | (with_reducible refine brG_in (fun h_ => ?_) (fun h_ => ?_)) | (with_reducible refine brN_in (fun h_ => ?_) (fun h_ => ?_)) | simp only [pvZ, lz, nz, rr_one, upd_apply, upd_upd, initT, optI, splice, reduceIte, reduceCtorEq, Nat.reduceEqDiff, Nat.reduceAdd, Nat.reduceSub, Nat.reduceMul, Nat.reduceLeDiff, Nat.reduceLT, Int.reduceLT, Int.reduceLE, Int.reduceToNat, Int.reduceEq, Int.cast_ofNat_Int, and_true, not_false_eq_true, *, -hmt, -hlt, encMap, encEvid])
    · have e1 : ¬ (es.length : Int) = 4 := by simpa using h_
      refine OutQ.eq (by repeat (first | exact SExt.refl _ | (refine SExt.old ?_ (by simp only [*]) _))) ?_
      simp [acceptF, manyF, e1]
    · have e1 : (es.length : Int) = 4 := by simpa using h_
      have hd : dropsF l ≤ l.length := List.countP_le_length
      refine ref0 l hl2 rfl rfl rfl fun t' k1 k3 k5 k8 => ?_
      simp only [upd_apply, Nat.reduceEqDiff, reduceIte, initT, List.getElem?_cons_zero, List.getElem?_cons_succ, Option.getD_some] at k1 k3 k5
      simp only [pvZ, lz, nz, rr_one, upd_apply, upd_upd, initT, optI, splice, reduceIte, reduceCtorEq, Nat.reduceEqDiff, Nat.reduceAdd, Nat.reduceSub, Nat.reduceMul, Nat.reduceLeDiff, Nat.reduceLT, Int.reduceLT, Int.reduceLE, Int.reduceToNat, Int.reduceEq, Int.cast_ofNat_Int, and_true, not_false_eq_true, k1, k3, k5, k8, *, -hmt, -hlt, -hd]
      refine ref1 m l ⟨4, es⟩ hm hmt hl2 hlt (show es.length ≤ 10 by omega) (by simp only [upd_apply, Nat.reduceEqDiff, reduceIte]; exact k1) (by simp only [upd_apply, Nat.reduceEqDiff, reduceIte]; exact k3) (by simp only [upd_apply, Nat.reduceEqDiff, reduceIte]; exact k5) (by simp only [upd_apply, Nat.reduceEqDiff, reduceIte]) (by simp only [upd_apply, *, reduceIte, encMap]) (by simp only [upd_apply, *, reduceIte, encEvid]) ?_ ?_
      · intro hgo t2 h6
        simp only [pvZ, lz, nz, rr_one, upd_apply, upd_upd, initT, optI, splice, reduceIte, reduceCtorEq, Nat.reduceEqDiff, Nat.reduceAdd, Nat.reduceSub, Nat.reduceMul, Nat.reduceLeDiff, Nat.reduceLT, Int.reduceLT, Int.reduceLE, Int.reduceToNat, Int.reduceEq, Int.cast_ofNat_Int, and_true, not_false_eq_true, h6]
        refine OutQ.eq (by repeat (first | exact SExt.refl _ | (refine SExt.old ?_ (by simp only [*]) _))) ?_
        simp [acceptF, hgo]
      · intro hgo t2
        simp only [pvZ, lz, nz, rr_one, upd_apply, upd_upd, initT, optI, splice, reduceIte, reduceCtorEq, Nat.reduceEqDiff, Nat.reduceAdd, Nat.reduceSub, Nat.reduceMul, Nat.reduceLeDiff, Nat.reduceLT, Int.reduceLT, Int.reduceLE, Int.reduceToNat, Int.reduceEq, Int.cast_ofNat_Int, and_true, not_false_eq_true]
        refine OutQ.eq (by repeat (first | exact SExt.refl _ | (refine SExt.old ?_ (by simp only [*]) _))) ?_
        simp only [] at hgo
        simp [acceptF, manyF, hgo, e1]
end Go.Pv
