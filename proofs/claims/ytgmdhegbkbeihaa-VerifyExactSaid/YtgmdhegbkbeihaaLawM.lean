/- The functions Few. -/
import Derived.Test.YtgmdhegbkbeihaaLawL
set_option linter.unusedVariables false
set_option linter.unusedSimpArgs false
set_option maxRecDepth 4000
set_option maxHeartbeats 1000000
namespace Go.Pv
open Go

def fewO (o : Obj) (most : Int) : Bool := !decide ((300 : Int) < o.id.size) && !decide (most < o.refs.length) && !decide ((65 : Int) < o.tags.length) && o.refs.all (shortS 300) && o.tags.all (shortT 600)
theorem spec20 (o : Obj) (most : Int) (hmost : most ≤ 1000) {s : Nat → Option Blk} {k : Nat → Tk} : Spec prg 20 [.agg (encObj o), .int .i64 most] s k (.bool (fewO o most)) s k := by
  refine spec_tr prg_mixed tr_pref11_Few (Nat.le_of_ble_eq_true rfl) rfl ?_
  unfold pc_pref11_Few rs_pref11_Few
  by_cases c1 : (300 : Int) < o.id.size
  · repeat' (first | (with_reducible refine newS_in ?_; intro _ hid_; simp only [upd_none] at hid_) | (with_reducible refine brC_in (fun h_ => ?_) (fun h_ => ?_)) | (with_reducible refine brG_in (fun h_ => ?_) (fun h_ => ?_)) | (with_reducible refine brN_in (fun h_ => ?_) (fun h_ => ?_)) | simp only [pvZ, lz, nz, rr_one, upd_apply, upd_upd, initT, optI, splice, reduceIte, reduceCtorEq, Nat.reduceEqDiff, Nat.reduceAdd, Nat.reduceSub, Nat.reduceMul, Nat.reduceLeDiff, Nat.reduceLT, Int.reduceLT, Int.reduceLE, Int.reduceToNat, Int.reduceEq, Int.cast_ofNat_Int, and_true, not_false_eq_true, *, encObj])
    refine OutQ.eq (by repeat (first | exact SExt.refl _ | (refine SExt.old ?_ (by simp only [*]) _))) ?_
    simp [fewO, c1]
  by_cases c2 : most < o.refs.length
  · repeat' (first | (with_reducible refine newS_in ?_; intro _ hid_; simp only [upd_none] at hid_) | (with_reducible refine brC_in (fun h_ => ?_) (fun h_ => ?_)) | (with_reducible refine brG_in (fun h_ => ?_) (fun h_ => ?_)) | (with_reducible refine brN_in (fun h_ => ?_) (fun h_ => ?_)) | simp only [pvZ, lz, nz, rr_one, upd_apply, upd_upd, initT, optI, splice, reduceIte, reduceCtorEq, Nat.reduceEqDiff, Nat.reduceAdd, Nat.reduceSub, Nat.reduceMul, Nat.reduceLeDiff, Nat.reduceLT, Int.reduceLT, Int.reduceLE, Int.reduceToNat, Int.reduceEq, Int.cast_ofNat_Int, and_true, not_false_eq_true, *, encObj])
    refine OutQ.eq (by repeat (first | exact SExt.refl _ | (refine SExt.old ?_ (by simp only [*]) _))) ?_
    simp [fewO, c2]
  by_cases c3 : (65 : Int) < o.tags.length
  · repeat' (first | (with_reducible refine newS_in ?_; intro _ hid_; simp only [upd_none] at hid_) | (with_reducible refine brC_in (fun h_ => ?_) (fun h_ => ?_)) | (with_reducible refine brG_in (fun h_ => ?_) (fun h_ => ?_)) | (with_reducible refine brN_in (fun h_ => ?_) (fun h_ => ?_)) | simp only [pvZ, lz, nz, rr_one, upd_apply, upd_upd, initT, optI, splice, reduceIte, reduceCtorEq, Nat.reduceEqDiff, Nat.reduceAdd, Nat.reduceSub, Nat.reduceMul, Nat.reduceLeDiff, Nat.reduceLT, Int.reduceLT, Int.reduceLE, Int.reduceToNat, Int.reduceEq, Int.cast_ofNat_Int, and_true, not_false_eq_true, *, encObj])
    refine OutQ.eq (by repeat (first | exact SExt.refl _ | (refine SExt.old ?_ (by simp only [*]) _))) ?_
    simp [fewO, c3]
  repeat' (first | (with_reducible refine newS_in ?_; intro _ hid_; simp only [upd_none] at hid_) | (with_reducible refine brC_in (fun h_ => ?_) (fun h_ => ?_)) | (with_reducible refine brG_in (fun h_ => ?_) (fun h_ => ?_)) | (with_reducible refine brN_in (fun h_ => ?_) (fun h_ => ?_)) | simp only [pvZ, lz, nz, rr_one, upd_apply, upd_upd, initT, optI, splice, reduceIte, reduceCtorEq, Nat.reduceEqDiff, Nat.reduceAdd, Nat.reduceSub, Nat.reduceMul, Nat.reduceLeDiff, Nat.reduceLT, Int.reduceLT, Int.reduceLE, Int.reduceToNat, Int.reduceEq, Int.cast_ofNat_Int, and_true, not_false_eq_true, *, encObj])
  refine f20a o (by omega) rfl rfl (by simp only [upd_apply, *, reduceIte, encObj]) ?_ ?_
  · intro hf t' h4
    simp only [pvZ, lz, nz, rr_one, upd_apply, upd_upd, initT, optI, splice, reduceIte, reduceCtorEq, Nat.reduceEqDiff, Nat.reduceAdd, Nat.reduceSub, Nat.reduceMul, Nat.reduceLeDiff, Nat.reduceLT, Int.reduceLT, Int.reduceLE, Int.reduceToNat, Int.reduceEq, Int.cast_ofNat_Int, and_true, not_false_eq_true, h4]
    refine OutQ.eq (by repeat (first | exact SExt.refl _ | (refine SExt.old ?_ (by simp only [*]) _))) ?_
    simp [fewO, hf]
  · intro hf t' k2
    simp only [upd_apply, Nat.reduceEqDiff, reduceIte] at k2
    simp only [pvZ, lz, nz, rr_one, upd_apply, upd_upd, initT, optI, splice, reduceIte, reduceCtorEq, Nat.reduceEqDiff, Nat.reduceAdd, Nat.reduceSub, Nat.reduceMul, Nat.reduceLeDiff, Nat.reduceLT, Int.reduceLT, Int.reduceLE, Int.reduceToNat, Int.reduceEq, Int.cast_ofNat_Int, and_true, not_false_eq_true, k2]
    refine f20b o (by omega) (by simp only [upd_apply, Nat.reduceEqDiff, reduceIte]; exact k2) (by simp only [upd_apply, Nat.reduceEqDiff, reduceIte]) (by simp only [upd_apply, *, reduceIte, encObj]) ?_ ?_
    · intro hf2 t2 h4
      simp only [pvZ, lz, nz, rr_one, upd_apply, upd_upd, initT, optI, splice, reduceIte, reduceCtorEq, Nat.reduceEqDiff, Nat.reduceAdd, Nat.reduceSub, Nat.reduceMul, Nat.reduceLeDiff, Nat.reduceLT, Int.reduceLT, Int.reduceLE, Int.reduceToNat, Int.reduceEq, Int.cast_ofNat_Int, and_true, not_false_eq_true, h4]
      refine OutQ.eq (by repeat (first | exact SExt.refl _ | (refine SExt.old ?_ (by simp only [*]) _))) ?_
      simp [fewO, hf2]
    · intro hf2 t2 k2'
      simp only [pvZ, lz, nz, rr_one, upd_apply, upd_upd, initT, optI, splice, reduceIte, reduceCtorEq, Nat.reduceEqDiff, Nat.reduceAdd, Nat.reduceSub, Nat.reduceMul, Nat.reduceLeDiff, Nat.reduceLT, Int.reduceLT, Int.reduceLE, Int.reduceToNat, Int.reduceEq, Int.cast_ofNat_Int, and_true, not_false_eq_true]
      refine OutQ.eq (by repeat (first | exact SExt.refl _ | (refine SExt.old ?_ (by simp only [*]) _))) ?_
      simp [fewO, hf, hf2, c1, c2, c3]
def fewM (o : Obj) : Bool := !decide ((12 : Int) < o.refs.length) && !decide ((20 : Int) < o.tags.length) && !decide ((60 : Int) < o.id.size) && o.refs.all (shortS 60) && o.tags.all (shortT 300)
theorem spec14 (m : List Obj) (most : Int) (hmost : most ≤ 1000) {s : Nat → Option Blk} {k : Nat → Tk} : Spec prg 14 [.agg (encMap m), .int .i64 most] s k (.bool (!decide (most < m.length) && m.all fewM)) s k := by
  refine spec_tr prg_mixed tr_pref13_Few (Nat.le_of_ble_eq_true rfl) rfl ?_
  unfold pc_pref13_Few rs_pref13_Few
  simp only [pvZ, lz, nz, rr_one, upd_apply, upd_upd, initT, optI, splice, reduceIte, reduceCtorEq, Nat.reduceEqDiff, Nat.reduceAdd, Nat.reduceSub, Nat.reduceMul, Nat.reduceLeDiff, Nat.reduceLT, Int.reduceLT, Int.reduceLE, Int.reduceToNat, Int.reduceEq, Int.cast_ofNat_Int, and_true, not_false_eq_true, encMap]
  (with_reducible refine newS_in ?_); intro b2 h2; simp only [upd_none] at h2
  by_cases c1 : most < m.length
  · repeat' (first | (with_reducible refine newS_in ?_; intro _ hid_; simp only [upd_none] at hid_) | (with_reducible refine brC_in (fun h_ => ?_) (fun h_ => ?_)) | (with_reducible refine brG_in (fun h_ => ?_) (fun h_ => ?_)) | (with_reducible refine brN_in (fun h_ => ?_) (fun h_ => ?_)) | simp only [pvZ, lz, nz, rr_one, upd_apply, upd_upd, initT, optI, splice, reduceIte, reduceCtorEq, Nat.reduceEqDiff, Nat.reduceAdd, Nat.reduceSub, Nat.reduceMul, Nat.reduceLeDiff, Nat.reduceLT, Int.reduceLT, Int.reduceLE, Int.reduceToNat, Int.reduceEq, Int.cast_ofNat_Int, and_true, not_false_eq_true, *])
    refine OutQ.eq (by repeat (first | exact SExt.refl _ | (refine SExt.old ?_ (by simp only [*]) _))) ?_
    simp [c1]
  repeat' (first | (with_reducible refine newS_in ?_; intro _ hid_; simp only [upd_none] at hid_) | (with_reducible refine brC_in (fun h_ => ?_) (fun h_ => ?_)) | (with_reducible refine brG_in (fun h_ => ?_) (fun h_ => ?_)) | (with_reducible refine brN_in (fun h_ => ?_) (fun h_ => ?_)) | simp only [pvZ, lz, nz, rr_one, upd_apply, upd_upd, initT, optI, splice, reduceIte, reduceCtorEq, Nat.reduceEqDiff, Nat.reduceAdd, Nat.reduceSub, Nat.reduceMul, Nat.reduceLeDiff, Nat.reduceLT, Int.reduceLT, Int.reduceLE, Int.reduceToNat, Int.reduceEq, Int.cast_ofNat_Int, and_true, not_false_eq_true, *])
  refine loop_intro (fun n st => ∃ j : Nat, st.s = upd s b2 (some (.cells (encMap m))) ∧ st.k = k ∧ st.t 2 = .ptr b2 0 ∧ st.t 5 = .int .i64 j ∧ n = m.length - j ∧ j ≤ m.length ∧ ∀ i (h : i < m.length), i < j → fewM m[i] = true) m.length ?_ ?_
  · exact ⟨0, rfl, rfl, rfl, rfl, by omega, by omega, by omega⟩
  · rintro n ⟨t1, s1, k1⟩ ⟨j, hs1, hk1, g2, g5, rfl, hj, hall⟩
    dsimp only at hs1 hk1 g2 g5
    subst hs1 hk1
    simp only [pvZ, lz, nz, rr_one, upd_apply, upd_upd, initT, optI, splice, reduceIte, reduceCtorEq, Nat.reduceEqDiff, Nat.reduceAdd, Nat.reduceSub, Nat.reduceMul, Nat.reduceLeDiff, Nat.reduceLT, Int.reduceLT, Int.reduceLE, Int.reduceToNat, Int.reduceEq, Int.cast_ofNat_Int, and_true, not_false_eq_true, g2, g5, encMap]
    refine brC_in (fun hlt => ?_) (fun hge => ?_)
    · have hj' : j < m.length := by simpa using hlt
      have hg : (m.map encObj)[j]? = some (encObj m[j]) := objE.get hj'
      have hfail : fewM m[j] = false → m.all fewM = false := fun h => all_first hj' h
      generalize hE : encObj m[j] = E at hg
      have hE1 : List.map A.strip (List.take 6 E) = E := by rw [← hE]; rfl
      have hE2 : List.map A.strip E = E := by rw [← hE]; rfl
      have hE3 : E.length = 6 := by rw [← hE]; rfl
      have hE4 : E[4]? = some (.sl 1 (m[j].refs.map encStr) .no) := by rw [← hE]; rfl
      have hE5 : E[5]? = some (.sl 2 (m[j].tags.map encTag) .no) := by rw [← hE]; rfl
      have hE0 : E[0]? = some (.str m[j].id) := by rw [← hE]; rfl
      have hEd : List.drop 6 [A.str ⟨#[]⟩, .int .i64 0, .int .i64 0, .int .i64 0, .sl 1 [] .nil, .sl 2 [] .nil] = [] := rfl
      simp only [pvZ, lz, nz, rr_one, upd_apply, upd_upd, initT, optI, splice, reduceIte, reduceCtorEq, Nat.reduceEqDiff, Nat.reduceAdd, Nat.reduceSub, Nat.reduceMul, Nat.reduceLeDiff, Nat.reduceLT, Int.reduceLT, Int.reduceLE, Int.reduceToNat, Int.reduceEq, Int.cast_ofNat_Int, and_true, not_false_eq_true, g2, g5, hg, hE1, hE2, hE3]
      (with_reducible refine newS_in ?_); intro b6 h6; simp only [upd_none] at h6
      by_cases d1 : (12 : Int) < m[j].refs.length
      · repeat' (first | (with_reducible refine newS_in ?_; intro _ hid_; simp only [upd_none] at hid_) | (with_reducible refine brC_in (fun h_ => ?_) (fun h_ => ?_)) | (with_reducible refine brG_in (fun h_ => ?_) (fun h_ => ?_)) | (with_reducible refine brN_in (fun h_ => ?_) (fun h_ => ?_)) | simp only [pvZ, lz, nz, rr_one, upd_apply, upd_upd, initT, optI, splice, reduceIte, reduceCtorEq, Nat.reduceEqDiff, Nat.reduceAdd, Nat.reduceSub, Nat.reduceMul, Nat.reduceLeDiff, Nat.reduceLT, Int.reduceLT, Int.reduceLE, Int.reduceToNat, Int.reduceEq, Int.cast_ofNat_Int, and_true, not_false_eq_true, *, -hlt, -hall, -hE, -hfail])
        refine OutQ.eq (by repeat (first | exact SExt.refl _ | (refine SExt.old ?_ (by simp only [*]) _))) ?_
        rw [hfail (by simp [fewM, d1])]
        simp
      by_cases d2 : (20 : Int) < m[j].tags.length
      · repeat' (first | (with_reducible refine newS_in ?_; intro _ hid_; simp only [upd_none] at hid_) | (with_reducible refine brC_in (fun h_ => ?_) (fun h_ => ?_)) | (with_reducible refine brG_in (fun h_ => ?_) (fun h_ => ?_)) | (with_reducible refine brN_in (fun h_ => ?_) (fun h_ => ?_)) | simp only [pvZ, lz, nz, rr_one, upd_apply, upd_upd, initT, optI, splice, reduceIte, reduceCtorEq, Nat.reduceEqDiff, Nat.reduceAdd, Nat.reduceSub, Nat.reduceMul, Nat.reduceLeDiff, Nat.reduceLT, Int.reduceLT, Int.reduceLE, Int.reduceToNat, Int.reduceEq, Int.cast_ofNat_Int, and_true, not_false_eq_true, *, -hlt, -hall, -hE, -hfail])
        refine OutQ.eq (by repeat (first | exact SExt.refl _ | (refine SExt.old ?_ (by simp only [*]) _))) ?_
        rw [hfail (by simp [fewM, d2])]
        simp
      by_cases d3 : (60 : Int) < m[j].id.size
      · repeat' (first | (with_reducible refine newS_in ?_; intro _ hid_; simp only [upd_none] at hid_) | (with_reducible refine brC_in (fun h_ => ?_) (fun h_ => ?_)) | (with_reducible refine brG_in (fun h_ => ?_) (fun h_ => ?_)) | (with_reducible refine brN_in (fun h_ => ?_) (fun h_ => ?_)) | simp only [pvZ, lz, nz, rr_one, upd_apply, upd_upd, initT, optI, splice, reduceIte, reduceCtorEq, Nat.reduceEqDiff, Nat.reduceAdd, Nat.reduceSub, Nat.reduceMul, Nat.reduceLeDiff, Nat.reduceLT, Int.reduceLT, Int.reduceLE, Int.reduceToNat, Int.reduceEq, Int.cast_ofNat_Int, and_true, not_false_eq_true, *, -hlt, -hall, -hE, -hfail])
        refine OutQ.eq (by repeat (first | exact SExt.refl _ | (refine SExt.old ?_ (by simp only [*]) _))) ?_
        rw [hfail (by simp [fewM, d3])]
        simp
      repeat' (first | (with_reducible refine newS_in ?_; intro _ hid_; simp only [upd_none] at hid_) | (with_reducible refine brC_in (fun h_ => ?_) (fun h_ => ?_)) | (with_reducible refine brG_in (fun h_ => ?_) (fun h_ => ?_)) | (with_reducible refine brN_in (fun h_ => ?_) (fun h_ => ?_)) | simp only [pvZ, lz, nz, rr_one, upd_apply, upd_upd, initT, optI, splice, reduceIte, reduceCtorEq, Nat.reduceEqDiff, Nat.reduceAdd, Nat.reduceSub, Nat.reduceMul, Nat.reduceLeDiff, Nat.reduceLT, Int.reduceLT, Int.reduceLE, Int.reduceToNat, Int.reduceEq, Int.cast_ofNat_Int, and_true, not_false_eq_true, *, -hlt, -hall, -hE, -hfail])
      refine f14a m[j] (by omega) rfl rfl (by simp only [upd_apply, *, reduceIte]) ?_ ?_
      · intro hf t' h4
        simp only [pvZ, lz, nz, rr_one, upd_apply, upd_upd, initT, optI, splice, reduceIte, reduceCtorEq, Nat.reduceEqDiff, Nat.reduceAdd, Nat.reduceSub, Nat.reduceMul, Nat.reduceLeDiff, Nat.reduceLT, Int.reduceLT, Int.reduceLE, Int.reduceToNat, Int.reduceEq, Int.cast_ofNat_Int, and_true, not_false_eq_true, h4]
        refine OutQ.eq (by repeat (first | exact SExt.refl _ | (refine SExt.old ?_ (by simp only [*]) _))) ?_
        rw [hfail (by simp [fewM, hf])]
        simp
      · intro hf t' k2 k5 k6
        simp only [upd_apply, Nat.reduceEqDiff, reduceIte] at k2 k5 k6
        simp only [pvZ, lz, nz, rr_one, upd_apply, upd_upd, initT, optI, splice, reduceIte, reduceCtorEq, Nat.reduceEqDiff, Nat.reduceAdd, Nat.reduceSub, Nat.reduceMul, Nat.reduceLeDiff, Nat.reduceLT, Int.reduceLT, Int.reduceLE, Int.reduceToNat, Int.reduceEq, Int.cast_ofNat_Int, and_true, not_false_eq_true, k2, k5, k6]
        refine f14b m[j] (by omega) (by simp only [upd_apply, Nat.reduceEqDiff, reduceIte]; exact k6) (by simp only [upd_apply, Nat.reduceEqDiff, reduceIte]) (by simp only [upd_apply, *, reduceIte]) ?_ ?_
        · intro hf2 t2 h4
          simp only [pvZ, lz, nz, rr_one, upd_apply, upd_upd, initT, optI, splice, reduceIte, reduceCtorEq, Nat.reduceEqDiff, Nat.reduceAdd, Nat.reduceSub, Nat.reduceMul, Nat.reduceLeDiff, Nat.reduceLT, Int.reduceLT, Int.reduceLE, Int.reduceToNat, Int.reduceEq, Int.cast_ofNat_Int, and_true, not_false_eq_true, h4]
          refine OutQ.eq (by repeat (first | exact SExt.refl _ | (refine SExt.old ?_ (by simp only [*]) _))) ?_
          rw [hfail (by simp [fewM, hf2])]
          simp
        · intro hf2 t2 q2 q5 q6
          simp only [upd_apply, Nat.reduceEqDiff, reduceIte, k2, k5, g2, g5] at q2 q5
          simp only [pvZ, lz, nz, rr_one, upd_apply, upd_upd, initT, optI, splice, reduceIte, reduceCtorEq, Nat.reduceEqDiff, Nat.reduceAdd, Nat.reduceSub, Nat.reduceMul, Nat.reduceLeDiff, Nat.reduceLT, Int.reduceLT, Int.reduceLE, Int.reduceToNat, Int.reduceEq, Int.cast_ofNat_Int, and_true, not_false_eq_true, q2, q5]
          refine nextQ_normal (m.length - (j + 1)) (by omega) (St.le_s (s := upd s b2 (some (.cells (encMap m)))) (SExt.old (SExt.refl _) ?_ _)) ⟨j + 1, rfl, rfl, ?_, ?_, rfl, by omega, fun i hi1 hi2 => ?_⟩
          · exact (upd_none _ _ _ _).2 h6
          · simp only [upd_apply, Nat.reduceEqDiff, reduceIte]; exact q2
          · simp only [upd_apply, Nat.reduceEqDiff, reduceIte]
            rw [wrap64 (by omega) (by omega)]
            rfl
          · by_cases h : i = j
            · subst h; simp [fewM, hf, hf2, d1, d2, d3]
            · exact hall i hi1 (by omega)
    · have hj' : ¬ j < m.length := by simpa using hge
      simp only [pvZ, lz, nz, rr_one, upd_apply, upd_upd, initT, optI, splice, reduceIte, reduceCtorEq, Nat.reduceEqDiff, Nat.reduceAdd, Nat.reduceSub, Nat.reduceMul, Nat.reduceLeDiff, Nat.reduceLT, Int.reduceLT, Int.reduceLE, Int.reduceToNat, Int.reduceEq, Int.cast_ofNat_Int, and_true, not_false_eq_true]
      refine OutQ.eq (by repeat (first | exact SExt.refl _ | (refine SExt.old ?_ (by simp only [*]) _))) ?_
      rw [all_through fun i h => hall i h (by omega)]
      simp [c1]
end Go.Pv
