/- The functions Few: of edits; the law's own few. -/
import Derived.Test.YtgmdhegbkbeihaaLawM
set_option linter.unusedVariables false
set_option linter.unusedSimpArgs false
set_option maxRecDepth 4000
set_option maxHeartbeats 1000000
namespace Go.Pv
open Go

def fewE (e : Edit) : Bool := !decide ((300 : Int) < e.id.size) && !decide ((300 : Int) < e.other.size) && !decide ((300 : Int) < e.node.size) && !decide ((300 : Int) < e.key.size) && !decide ((300 : Int) < e.val.size) && !decide ((20 : Int) < e.refs.length) && fewO e.obj 20 &&
  !decide ((20 : Int) < e.obj.tags.length) && e.refs.all (shortS 300)
theorem spec10 (l : List Edit) (most : Int) (hmost : most ≤ 1000) {s : Nat → Option Blk} {k : Nat → Tk} : Spec prg 10 [.sl 15 (l.map encEdit) .no, .int .i64 most] s k (.bool (!decide (most < l.length) && l.all fewE)) s k := by
  refine spec_tr prg_mixed tr_pref22_Few (Nat.le_of_ble_eq_true rfl) rfl ?_
  unfold pc_pref22_Few rs_pref22_Few
  by_cases c1 : most < l.length
  · repeat' (first | (with_reducible refine newS_in ?_; intro _ hid_; simp only [upd_none] at hid_) | (with_reducible refine brC_in (fun h_ => ?_) (fun h_ => ?_)) | (with_reducible refine brG_in (fun h_ => ?_) (fun h_ => ?_)) | (with_reducible refine brN_in (fun h_ => ?_) (fun h_ => ?_)) | simp only [pvZ, lz, nz, rr_one, upd_apply, upd_upd, initT, optI, splice, reduceIte, reduceCtorEq, Nat.reduceEqDiff, Nat.reduceAdd, Nat.reduceSub, Nat.reduceMul, Nat.reduceLeDiff, Nat.reduceLT, Int.reduceLT, Int.reduceLE, Int.reduceToNat, Int.reduceEq, Int.cast_ofNat_Int, and_true, not_false_eq_true, *])
    refine OutQ.eq (by repeat (first | exact SExt.refl _ | (refine SExt.old ?_ (by simp only [*]) _))) ?_
    simp [c1]
  repeat' (first | (with_reducible refine newS_in ?_; intro _ hid_; simp only [upd_none] at hid_) | (with_reducible refine brC_in (fun h_ => ?_) (fun h_ => ?_)) | (with_reducible refine brG_in (fun h_ => ?_) (fun h_ => ?_)) | (with_reducible refine brN_in (fun h_ => ?_) (fun h_ => ?_)) | simp only [pvZ, lz, nz, rr_one, upd_apply, upd_upd, initT, optI, splice, reduceIte, reduceCtorEq, Nat.reduceEqDiff, Nat.reduceAdd, Nat.reduceSub, Nat.reduceMul, Nat.reduceLeDiff, Nat.reduceLT, Int.reduceLT, Int.reduceLE, Int.reduceToNat, Int.reduceEq, Int.cast_ofNat_Int, and_true, not_false_eq_true, *])
  refine loop_intro (fun n st => ∃ j : Nat, st.s = s ∧ st.k = k ∧ st.t 0 = .sl 15 (l.map encEdit) .no ∧ st.t 5 = .int .i64 j ∧ n = l.length - j ∧ j ≤ l.length ∧ ∀ i (h : i < l.length), i < j → fewE l[i] = true) l.length ?_ ?_
  · exact ⟨0, rfl, rfl, rfl, rfl, by omega, by omega, by omega⟩
  · rintro n ⟨t1, s1, k1⟩ ⟨j, hs1, hk1, g0, g5, rfl, hj, hall⟩
    dsimp only at hs1 hk1 g0 g5
    subst hs1 hk1
    simp only [pvZ, lz, nz, rr_one, upd_apply, upd_upd, initT, optI, splice, reduceIte, reduceCtorEq, Nat.reduceEqDiff, Nat.reduceAdd, Nat.reduceSub, Nat.reduceMul, Nat.reduceLeDiff, Nat.reduceLT, Int.reduceLT, Int.reduceLE, Int.reduceToNat, Int.reduceEq, Int.cast_ofNat_Int, and_true, not_false_eq_true, g0, g5]
    refine brC_in (fun hlt => ?_) (fun hge => ?_)
    · have hj' : j < l.length := by simpa using hlt
      have hg : (l.map encEdit)[j]? = some (encEdit l[j]) := editE.get hj'
      have hfail : fewE l[j] = false → l.all fewE = false := fun h => all_first hj' h
      clear hlt
      generalize hE : l[j] = e at hg hfail
      simp only [pvZ, lz, nz, rr_one, upd_apply, upd_upd, initT, optI, splice, reduceIte, reduceCtorEq, Nat.reduceEqDiff, Nat.reduceAdd, Nat.reduceSub, Nat.reduceMul, Nat.reduceLeDiff, Nat.reduceLT, Int.reduceLT, Int.reduceLE, Int.reduceToNat, Int.reduceEq, Int.cast_ofNat_Int, and_true, not_false_eq_true, g0, g5, hg, wh_encEdit, st_encEdit, len_encEdit]
      (with_reducible refine newS_in ?_); intro b6 h6; simp only [upd_none] at h6
      by_cases d6 : (20 : Int) < e.refs.length
      · repeat' (first | (refine callS_quiet (spec20 e.obj 20 (by decide)) ?_) | (with_reducible refine newS_in ?_; intro _ hid_; simp only [upd_none] at hid_) | (with_reducible refine brC_in (fun h_ => ?_) (fun h_ => ?_)) | (with_reducible refine brG_in (fun h_ => ?_) (fun h_ => ?_)) | (with_reducible refine brN_in (fun h_ => ?_) (fun h_ => ?_)) | simp only [pvZ, lz, nz, rr_one, upd_apply, upd_upd, initT, optI, splice, reduceIte, reduceCtorEq, Nat.reduceEqDiff, Nat.reduceAdd, Nat.reduceSub, Nat.reduceMul, Nat.reduceLeDiff, Nat.reduceLT, Int.reduceLT, Int.reduceLE, Int.reduceToNat, Int.reduceEq, Int.cast_ofNat_Int, and_true, not_false_eq_true, *, -hfail, -hg, -hall, -hE, encEdit])
        all_goals
          refine OutQ.eq (by repeat (first | exact SExt.refl _ | (refine SExt.old ?_ (by simp only [*]) _))) ?_
          rw [hfail (by simp [fewE, d6])]
          simp
      repeat' (first | (refine callS_quiet (spec20 e.obj 20 (by decide)) ?_) | (with_reducible refine newS_in ?_; intro _ hid_; simp only [upd_none] at hid_) | (with_reducible refine brC_in (fun h_ => ?_) (fun h_ => ?_)) | (with_reducible refine brG_in (fun h_ => ?_) (fun h_ => ?_)) | (with_reducible refine brN_in (fun h_ => ?_) (fun h_ => ?_)) | simp only [pvZ, lz, nz, rr_one, upd_apply, upd_upd, initT, optI, splice, reduceIte, reduceCtorEq, Nat.reduceEqDiff, Nat.reduceAdd, Nat.reduceSub, Nat.reduceMul, Nat.reduceLeDiff, Nat.reduceLT, Int.reduceLT, Int.reduceLE, Int.reduceToNat, Int.reduceEq, Int.cast_ofNat_Int, and_true, not_false_eq_true, *, -hfail, -hg, -hall, -hE, encEdit])
      all_goals first
        | (have h' : fewO e.obj 20 = false := by simpa using h_
           refine OutQ.eq (by repeat (first | exact SExt.refl _ | (refine SExt.old ?_ (by simp only [*]) _))) ?_; rw [hfail (by simp [fewE, h'])]; simp; done)
        | (refine OutQ.eq (by repeat (first | exact SExt.refl _ | (refine SExt.old ?_ (by simp only [*]) _))) ?_; rw [hfail (by simp [fewE, *]; done)]; simp; done)
        | skip
      refine f10a e (by omega) rfl rfl (by simp only [upd_apply, *, reduceIte, encEdit]) ?_ ?_
      · intro hf t' h4
        simp only [pvZ, lz, nz, rr_one, upd_apply, upd_upd, initT, optI, splice, reduceIte, reduceCtorEq, Nat.reduceEqDiff, Nat.reduceAdd, Nat.reduceSub, Nat.reduceMul, Nat.reduceLeDiff, Nat.reduceLT, Int.reduceLT, Int.reduceLE, Int.reduceToNat, Int.reduceEq, Int.cast_ofNat_Int, and_true, not_false_eq_true, h4]
        refine OutQ.eq (by repeat (first | exact SExt.refl _ | (refine SExt.old ?_ (by simp only [*]) _))) ?_
        rw [hfail (by simp [fewE, hf])]
        simp
      · intro hf t' k0 k5 k6
        simp only [upd_apply, Nat.reduceEqDiff, reduceIte, g0, g5] at k0 k5
        simp only [pvZ, lz, nz, rr_one, upd_apply, upd_upd, initT, optI, splice, reduceIte, reduceCtorEq, Nat.reduceEqDiff, Nat.reduceAdd, Nat.reduceSub, Nat.reduceMul, Nat.reduceLeDiff, Nat.reduceLT, Int.reduceLT, Int.reduceLE, Int.reduceToNat, Int.reduceEq, Int.cast_ofNat_Int, and_true, not_false_eq_true, k0, k5]
        refine nextQ_normal (l.length - (j + 1)) (by omega) (St.le_s (s := s1) (by repeat (first | exact SExt.refl _ | (refine SExt.old ?_ (by simp only [*]) _)))) ⟨j + 1, rfl, rfl, ?_, ?_, rfl, by omega, fun i hi1 hi2 => ?_⟩
        · simp only [upd_apply, Nat.reduceEqDiff, reduceIte]; exact k0
        · simp only [upd_apply, Nat.reduceEqDiff, reduceIte]
          rw [wrap64 (by omega) (by omega)]
          rfl
        · by_cases h : i = j
          · subst h
            rw [hE]
            simp only [Bool.not_eq_false', Bool.not_eq_true'] at *
            simp [fewE, hf, d6, *]
          · exact hall i hi1 (by omega)
    · have hj' : ¬ j < l.length := by simpa using hge
      simp only [pvZ, lz, nz, rr_one, upd_apply, upd_upd, initT, optI, splice, reduceIte, reduceCtorEq, Nat.reduceEqDiff, Nat.reduceAdd, Nat.reduceSub, Nat.reduceMul, Nat.reduceLeDiff, Nat.reduceLT, Int.reduceLT, Int.reduceLE, Int.reduceToNat, Int.reduceEq, Int.cast_ofNat_Int, and_true, not_false_eq_true]
      refine OutQ.eq (by repeat (first | exact SExt.refl _ | (refine SExt.old ?_ (by simp only [*]) _))) ?_
      rw [all_through fun i h => hall i h (by omega)]
      simp [c1]
def fewA (m : List Obj) (l : List Edit) (e : Evid) : Bool := (!decide ((40 : Int) < m.length) && m.all fewM) && (!decide ((40 : Int) < l.length) && l.all fewE) && decide ((e.edits.length : Int) ≤ 10)
theorem spec7 (m : List Obj) (l : List Edit) (e : Evid) {s : Nat → Option Blk} {k : Nat → Tk} : Spec prg 7 [.agg (encMap m), .sl 15 (l.map encEdit) .no, .agg (encEvid e)] s k (.bool (fewA m l e)) s k := by
  refine spec_tr prg_mixed tr_plaw32_few (Nat.le_of_ble_eq_true rfl) rfl ?_
  unfold pc_plaw32_few rs_plaw32_few
  repeat' (first | (refine callS_quiet (spec14 m 40 (by decide)) ?_) | (refine callS_quiet (spec10 l 40 (by decide)) ?_) | (with_reducible refine newS_in ?_; intro _ hid_; simp only [upd_none] at hid_) | (with_reducible refine brC_in (fun h_ => ?_) (fun h_ => ?_)) | (with_reducible refine brG_in (fun h_ => ?_) (fun h_ => ?_)) | (with_reducible refine brN_in (fun h_ => ?_) (fun h_ => ?_)) | simp only [pvZ, lz, nz, rr_one, upd_apply, upd_upd, initT, optI, splice, reduceIte, reduceCtorEq, Nat.reduceEqDiff, Nat.reduceAdd, Nat.reduceSub, Nat.reduceMul, Nat.reduceLeDiff, Nat.reduceLT, Int.reduceLT, Int.reduceLE, Int.reduceToNat, Int.reduceEq, Int.cast_ofNat_Int, and_true, not_false_eq_true, *, encMap, encEvid])
  all_goals (refine OutQ.eq (by repeat (first | exact SExt.refl _ | (refine SExt.old ?_ (by simp only [*]) _))) ?_)
  all_goals simp only [fewA, *, Bool.true_and, Bool.false_and, Bool.and_true]
theorem few_bounds {m : List Obj} {l : List Edit} {e : Evid} (h : fewA m l e = true) : m.length ≤ 40 ∧ l.length ≤ 40 ∧ e.edits.length ≤ 10 ∧ (∀ o ∈ m, o.tags.length ≤ 20) ∧ ∀ x ∈ l, x.obj.tags.length ≤ 20 := by
  simp only [fewA, Bool.and_eq_true, Bool.not_eq_true', decide_eq_false_iff_not, decide_eq_true_eq, List.all_eq_true] at h
  obtain ⟨⟨⟨h1, h2⟩, h3, h4⟩, h5⟩ := h
  refine ⟨by omega, by omega, by omega, fun o ho => ?_, fun x hx => ?_⟩
  · have := h2 o ho
    simp only [fewM, Bool.and_eq_true, Bool.not_eq_true', decide_eq_false_iff_not] at this
    omega
  · have := h4 x hx
    simp only [fewE, Bool.and_eq_true, Bool.not_eq_true', decide_eq_false_iff_not] at this
    omega
end Go.Pv
