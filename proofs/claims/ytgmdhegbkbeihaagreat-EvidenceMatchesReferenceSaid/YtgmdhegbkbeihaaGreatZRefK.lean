/- The reference's evidence: what an edit shows. -/
import Derived.Test.YtgmdhegbkbeihaaGreatZRefJ
set_option linter.unusedVariables false
set_option linter.unusedSimpArgs false
set_option maxRecDepth 4000
set_option maxHeartbeats 4000000
namespace Go.Pv
open Go

theorem spec_showr (m : List Obj) (e : Edit) (κ : Int) (h1 : 1 ≤ κ) (h4 : κ ≤ 4) (hl : m.length < 4611686018427387904) (ht : (objF m e.id).1.tags.length < 4611686018427387904) {s : Nat → Option Blk} {k : Nat → Tk} : Spec prg 73 [.agg (encMap m), .agg (encEdit e), .int .i64 κ] s k (.bool (showE m κ e)) s k := by
  refine spec_tr prg_mixed tr_pref31_shows (Nat.le_of_ble_eq_true rfl) rfl ?_
  unfold pc_pref31_shows rs_pref31_shows
  have ho := fun s k => @spec_oldr m e.id s k hl
  simp only [encMap] at ho
  have hκ : κ = 1 ∨ κ = 2 ∨ κ = 3 ∨ κ = 4 := by omega
  rcases hκ with rfl | rfl | rfl | rfl
  · have hF : showE m 1 e = (decide (e.op = 5) && (objF m e.id).2) := rfl
    simp only [sZ, initT, optI, splice, reduceIte, reduceCtorEq, Nat.reduceEqDiff, Nat.reduceAdd, Nat.reduceSub, Nat.reduceMul, Nat.reduceLeDiff, Nat.reduceLT, Int.reduceLT, Int.reduceLE, Int.reduceToNat, Int.reduceEq, Int.cast_ofNat_Int, encMap]
    (with_reducible refine newS_in ?_); intro b3 f3; simp only [upd_none] at f3
    simp only [sZ, initT, optI, splice, reduceIte, reduceCtorEq, Nat.reduceEqDiff, Nat.reduceAdd, Nat.reduceSub, Nat.reduceMul, Nat.reduceLeDiff, Nat.reduceLT, Int.reduceLT, Int.reduceLE, Int.reduceToNat, Int.reduceEq, Int.cast_ofNat_Int, encEdit]
    (with_reducible refine newS_in ?_); intro b4 f4; simp only [upd_none] at f4
    simp only [sZ, initT, optI, splice, reduceIte, reduceCtorEq, Nat.reduceEqDiff, Nat.reduceAdd, Nat.reduceSub, Nat.reduceMul, Nat.reduceLeDiff, Nat.reduceLT, Int.reduceLT, Int.reduceLE, Int.reduceToNat, Int.reduceEq, Int.cast_ofNat_Int, f3, f4]
    refine callS_quiet (ho _ _) ?_
    generalize (objF m e.id) = o at *
    simp only [sZ, initT, optI, splice, reduceIte, reduceCtorEq, Nat.reduceEqDiff, Nat.reduceAdd, Nat.reduceSub, Nat.reduceMul, Nat.reduceLeDiff, Nat.reduceLT, Int.reduceLT, Int.reduceLE, Int.reduceToNat, Int.reduceEq, Int.cast_ofNat_Int, f3, f4, encObj]
    (with_reducible refine newS_in ?_); intro b7 f7; simp only [upd_none] at f7
    by_cases c : e.op = 5
    · have d := decide_eq_true c
      rw [d, Bool.true_and] at hF
      simp only [sZ, initT, optI, splice, reduceIte, reduceCtorEq, Nat.reduceEqDiff, Nat.reduceAdd, Nat.reduceSub, Nat.reduceMul, Nat.reduceLeDiff, Nat.reduceLT, Int.reduceLT, Int.reduceLE, Int.reduceToNat, Int.reduceEq, Int.cast_ofNat_Int, f3, f4, f7, d]
      refine OutQ.eq (by repeat (first | exact SExt.refl _ | (refine SExt.old ?_ (by first | (simp only [*]; done) | (simp only [upd_none]; assumption) | (simp only [upd_none, *, not_false_eq_true, and_self]; done)) _))) ?_
      rw [hF]
    · have d := decide_eq_false c
      rw [d, Bool.false_and] at hF
      simp only [sZ, initT, optI, splice, reduceIte, reduceCtorEq, Nat.reduceEqDiff, Nat.reduceAdd, Nat.reduceSub, Nat.reduceMul, Nat.reduceLeDiff, Nat.reduceLT, Int.reduceLT, Int.reduceLE, Int.reduceToNat, Int.reduceEq, Int.cast_ofNat_Int, f3, f4, f7, d]
      refine OutQ.eq (by repeat (first | exact SExt.refl _ | (refine SExt.old ?_ (by first | (simp only [*]; done) | (simp only [upd_none]; assumption) | (simp only [upd_none, *, not_false_eq_true, and_self]; done)) _))) ?_
      rw [hF]
  · have hF : showE m 2 e = (decide (e.op = 3) && (decide (e.key = ⟨#[110, 97, 109, 101]⟩) && (decide (e.val = ⟨#[]⟩) && (tagG (objF m e.id).1.tags ⟨#[110, 97, 109, 101]⟩).2))) := rfl
    simp only [sZ, initT, optI, splice, reduceIte, reduceCtorEq, Nat.reduceEqDiff, Nat.reduceAdd, Nat.reduceSub, Nat.reduceMul, Nat.reduceLeDiff, Nat.reduceLT, Int.reduceLT, Int.reduceLE, Int.reduceToNat, Int.reduceEq, Int.cast_ofNat_Int, encMap]
    (with_reducible refine newS_in ?_); intro b3 f3; simp only [upd_none] at f3
    simp only [sZ, initT, optI, splice, reduceIte, reduceCtorEq, Nat.reduceEqDiff, Nat.reduceAdd, Nat.reduceSub, Nat.reduceMul, Nat.reduceLeDiff, Nat.reduceLT, Int.reduceLT, Int.reduceLE, Int.reduceToNat, Int.reduceEq, Int.cast_ofNat_Int, encEdit]
    (with_reducible refine newS_in ?_); intro b4 f4; simp only [upd_none] at f4
    simp only [sZ, initT, optI, splice, reduceIte, reduceCtorEq, Nat.reduceEqDiff, Nat.reduceAdd, Nat.reduceSub, Nat.reduceMul, Nat.reduceLeDiff, Nat.reduceLT, Int.reduceLT, Int.reduceLE, Int.reduceToNat, Int.reduceEq, Int.cast_ofNat_Int, f3, f4]
    refine callS_quiet (ho _ _) ?_
    generalize (objF m e.id) = o at *
    simp only [sZ, initT, optI, splice, reduceIte, reduceCtorEq, Nat.reduceEqDiff, Nat.reduceAdd, Nat.reduceSub, Nat.reduceMul, Nat.reduceLeDiff, Nat.reduceLT, Int.reduceLT, Int.reduceLE, Int.reduceToNat, Int.reduceEq, Int.cast_ofNat_Int, f3, f4, encObj]
    (with_reducible refine newS_in ?_); intro b9 f9; simp only [upd_none] at f9
    simp only [sZ, initT, optI, splice, reduceIte, reduceCtorEq, Nat.reduceEqDiff, Nat.reduceAdd, Nat.reduceSub, Nat.reduceMul, Nat.reduceLeDiff, Nat.reduceLT, Int.reduceLT, Int.reduceLE, Int.reduceToNat, Int.reduceEq, Int.cast_ofNat_Int, f3, f4, f9]
    refine callS_quiet (spec_get09 _ _ ht) ?_
    generalize (tagG o.1.tags ⟨#[110, 97, 109, 101]⟩) = g at *
    by_cases c : e.op = 3
    case neg =>
      have d := decide_eq_false c
      rw [d, Bool.false_and] at hF
      simp only [sZ, initT, optI, splice, reduceIte, reduceCtorEq, Nat.reduceEqDiff, Nat.reduceAdd, Nat.reduceSub, Nat.reduceMul, Nat.reduceLeDiff, Nat.reduceLT, Int.reduceLT, Int.reduceLE, Int.reduceToNat, Int.reduceEq, Int.cast_ofNat_Int, f3, f4, f9, d]
      refine OutQ.eq (by repeat (first | exact SExt.refl _ | (refine SExt.old ?_ (by first | (simp only [*]; done) | (simp only [upd_none]; assumption) | (simp only [upd_none, *, not_false_eq_true, and_self]; done)) _))) ?_
      rw [hF]
    have d := decide_eq_true c
    by_cases c2 : e.key = ⟨#[110, 97, 109, 101]⟩
    case neg =>
      have d2 := decide_eq_false c2
      rw [d2, Bool.false_and, Bool.and_false] at hF
      simp only [sZ, initT, optI, splice, reduceIte, reduceCtorEq, Nat.reduceEqDiff, Nat.reduceAdd, Nat.reduceSub, Nat.reduceMul, Nat.reduceLeDiff, Nat.reduceLT, Int.reduceLT, Int.reduceLE, Int.reduceToNat, Int.reduceEq, Int.cast_ofNat_Int, f3, f4, f9, d, d2]
      refine OutQ.eq (by repeat (first | exact SExt.refl _ | (refine SExt.old ?_ (by first | (simp only [*]; done) | (simp only [upd_none]; assumption) | (simp only [upd_none, *, not_false_eq_true, and_self]; done)) _))) ?_
      rw [hF]
    have d2 := decide_eq_true c2
    by_cases c3 : e.val = ⟨#[]⟩
    case neg =>
      have d3 := decide_eq_false c3
      rw [d3, Bool.false_and, Bool.and_false, Bool.and_false] at hF
      simp only [sZ, initT, optI, splice, reduceIte, reduceCtorEq, Nat.reduceEqDiff, Nat.reduceAdd, Nat.reduceSub, Nat.reduceMul, Nat.reduceLeDiff, Nat.reduceLT, Int.reduceLT, Int.reduceLE, Int.reduceToNat, Int.reduceEq, Int.cast_ofNat_Int, f3, f4, f9, d, d2, d3]
      refine OutQ.eq (by repeat (first | exact SExt.refl _ | (refine SExt.old ?_ (by first | (simp only [*]; done) | (simp only [upd_none]; assumption) | (simp only [upd_none, *, not_false_eq_true, and_self]; done)) _))) ?_
      rw [hF]
    have d3 := decide_eq_true c3
    rw [d, d2, d3, Bool.true_and, Bool.true_and, Bool.true_and] at hF
    simp only [sZ, initT, optI, splice, reduceIte, reduceCtorEq, Nat.reduceEqDiff, Nat.reduceAdd, Nat.reduceSub, Nat.reduceMul, Nat.reduceLeDiff, Nat.reduceLT, Int.reduceLT, Int.reduceLE, Int.reduceToNat, Int.reduceEq, Int.cast_ofNat_Int, f3, f4, f9, d, d2, d3]
    refine OutQ.eq (by repeat (first | exact SExt.refl _ | (refine SExt.old ?_ (by first | (simp only [*]; done) | (simp only [upd_none]; assumption) | (simp only [upd_none, *, not_false_eq_true, and_self]; done)) _))) ?_
    rw [hF]
  · have hF : showE m 3 e = (decide (e.op = 2) && ((objF m e.id).2 && (decide ((objF m e.id).1.kind = 1) && decide (1000000 ≤ distF (objF m e.id).1.x (objF m e.id).1.y e.x e.y)))) := rfl
    simp only [sZ, initT, optI, splice, reduceIte, reduceCtorEq, Nat.reduceEqDiff, Nat.reduceAdd, Nat.reduceSub, Nat.reduceMul, Nat.reduceLeDiff, Nat.reduceLT, Int.reduceLT, Int.reduceLE, Int.reduceToNat, Int.reduceEq, Int.cast_ofNat_Int, encMap]
    (with_reducible refine newS_in ?_); intro b3 f3; simp only [upd_none] at f3
    simp only [sZ, initT, optI, splice, reduceIte, reduceCtorEq, Nat.reduceEqDiff, Nat.reduceAdd, Nat.reduceSub, Nat.reduceMul, Nat.reduceLeDiff, Nat.reduceLT, Int.reduceLT, Int.reduceLE, Int.reduceToNat, Int.reduceEq, Int.cast_ofNat_Int, encEdit]
    (with_reducible refine newS_in ?_); intro b4 f4; simp only [upd_none] at f4
    simp only [sZ, initT, optI, splice, reduceIte, reduceCtorEq, Nat.reduceEqDiff, Nat.reduceAdd, Nat.reduceSub, Nat.reduceMul, Nat.reduceLeDiff, Nat.reduceLT, Int.reduceLT, Int.reduceLE, Int.reduceToNat, Int.reduceEq, Int.cast_ofNat_Int, f3, f4]
    refine callS_quiet (ho _ _) ?_
    generalize (objF m e.id) = o at *
    simp only [sZ, initT, optI, splice, reduceIte, reduceCtorEq, Nat.reduceEqDiff, Nat.reduceAdd, Nat.reduceSub, Nat.reduceMul, Nat.reduceLeDiff, Nat.reduceLT, Int.reduceLT, Int.reduceLE, Int.reduceToNat, Int.reduceEq, Int.cast_ofNat_Int, f3, f4, encObj]
    (with_reducible refine newS_in ?_); intro b13 f13; simp only [upd_none] at f13
    by_cases c : e.op = 2
    case neg =>
      have d := decide_eq_false c
      rw [d, Bool.false_and] at hF
      simp only [sZ, initT, optI, splice, reduceIte, reduceCtorEq, Nat.reduceEqDiff, Nat.reduceAdd, Nat.reduceSub, Nat.reduceMul, Nat.reduceLeDiff, Nat.reduceLT, Int.reduceLT, Int.reduceLE, Int.reduceToNat, Int.reduceEq, Int.cast_ofNat_Int, f3, f4, f13, d]
      refine OutQ.eq (by repeat (first | exact SExt.refl _ | (refine SExt.old ?_ (by first | (simp only [*]; done) | (simp only [upd_none]; assumption) | (simp only [upd_none, *, not_false_eq_true, and_self]; done)) _))) ?_
      rw [hF]
    have d := decide_eq_true c
    obtain ⟨o, b⟩ := o
    dsimp only at hF
    cases b
    · rw [Bool.false_and, Bool.and_false] at hF
      simp only [sZ, initT, optI, splice, reduceIte, reduceCtorEq, Nat.reduceEqDiff, Nat.reduceAdd, Nat.reduceSub, Nat.reduceMul, Nat.reduceLeDiff, Nat.reduceLT, Int.reduceLT, Int.reduceLE, Int.reduceToNat, Int.reduceEq, Int.cast_ofNat_Int, f3, f4, f13, d]
      refine OutQ.eq (by repeat (first | exact SExt.refl _ | (refine SExt.old ?_ (by first | (simp only [*]; done) | (simp only [upd_none]; assumption) | (simp only [upd_none, *, not_false_eq_true, and_self]; done)) _))) ?_
      rw [hF]
    by_cases c2 : o.kind = 1
    case neg =>
      have d2 := decide_eq_false c2
      rw [d2, Bool.false_and, Bool.and_false, Bool.and_false] at hF
      simp only [sZ, initT, optI, splice, reduceIte, reduceCtorEq, Nat.reduceEqDiff, Nat.reduceAdd, Nat.reduceSub, Nat.reduceMul, Nat.reduceLeDiff, Nat.reduceLT, Int.reduceLT, Int.reduceLE, Int.reduceToNat, Int.reduceEq, Int.cast_ofNat_Int, f3, f4, f13, d, d2]
      refine OutQ.eq (by repeat (first | exact SExt.refl _ | (refine SExt.old ?_ (by first | (simp only [*]; done) | (simp only [upd_none]; assumption) | (simp only [upd_none, *, not_false_eq_true, and_self]; done)) _))) ?_
      rw [hF]
    have d2 := decide_eq_true c2
    rw [d, d2, Bool.true_and, Bool.true_and, Bool.true_and] at hF
    simp only [sZ, initT, optI, splice, reduceIte, reduceCtorEq, Nat.reduceEqDiff, Nat.reduceAdd, Nat.reduceSub, Nat.reduceMul, Nat.reduceLeDiff, Nat.reduceLT, Int.reduceLT, Int.reduceLE, Int.reduceToNat, Int.reduceEq, Int.cast_ofNat_Int, f3, f4, f13, d, d2]
    refine callS_quiet (spec_dist3 _ _ _ _) ?_
    simp only [sZ, initT, optI, splice, reduceIte, reduceCtorEq, Nat.reduceEqDiff, Nat.reduceAdd, Nat.reduceSub, Nat.reduceMul, Nat.reduceLeDiff, Nat.reduceLT, Int.reduceLT, Int.reduceLE, Int.reduceToNat, Int.reduceEq, Int.cast_ofNat_Int, f3, f4, f13]
    refine OutQ.eq (by repeat (first | exact SExt.refl _ | (refine SExt.old ?_ (by first | (simp only [*]; done) | (simp only [upd_none]; assumption) | (simp only [upd_none, *, not_false_eq_true, and_self]; done)) _))) ?_
    rw [hF]
  · have hF : showE m 4 e = (decide (e.op = 1) && decide (e.obj.kind = 1)) := rfl
    simp only [sZ, initT, optI, splice, reduceIte, reduceCtorEq, Nat.reduceEqDiff, Nat.reduceAdd, Nat.reduceSub, Nat.reduceMul, Nat.reduceLeDiff, Nat.reduceLT, Int.reduceLT, Int.reduceLE, Int.reduceToNat, Int.reduceEq, Int.cast_ofNat_Int, encMap]
    (with_reducible refine newS_in ?_); intro b3 f3; simp only [upd_none] at f3
    simp only [sZ, initT, optI, splice, reduceIte, reduceCtorEq, Nat.reduceEqDiff, Nat.reduceAdd, Nat.reduceSub, Nat.reduceMul, Nat.reduceLeDiff, Nat.reduceLT, Int.reduceLT, Int.reduceLE, Int.reduceToNat, Int.reduceEq, Int.cast_ofNat_Int, encEdit]
    (with_reducible refine newS_in ?_); intro b4 f4; simp only [upd_none] at f4
    by_cases c : e.op = 1
    · have d := decide_eq_true c
      rw [d, Bool.true_and] at hF
      simp only [sZ, initT, optI, splice, reduceIte, reduceCtorEq, Nat.reduceEqDiff, Nat.reduceAdd, Nat.reduceSub, Nat.reduceMul, Nat.reduceLeDiff, Nat.reduceLT, Int.reduceLT, Int.reduceLE, Int.reduceToNat, Int.reduceEq, Int.cast_ofNat_Int, f3, f4, d]
      refine OutQ.eq (by repeat (first | exact SExt.refl _ | (refine SExt.old ?_ (by first | (simp only [*]; done) | (simp only [upd_none]; assumption) | (simp only [upd_none, *, not_false_eq_true, and_self]; done)) _))) ?_
      rw [hF]
    · have d := decide_eq_false c
      rw [d, Bool.false_and] at hF
      simp only [sZ, initT, optI, splice, reduceIte, reduceCtorEq, Nat.reduceEqDiff, Nat.reduceAdd, Nat.reduceSub, Nat.reduceMul, Nat.reduceLeDiff, Nat.reduceLT, Int.reduceLT, Int.reduceLE, Int.reduceToNat, Int.reduceEq, Int.cast_ofNat_Int, f3, f4, d]
      refine OutQ.eq (by repeat (first | exact SExt.refl _ | (refine SExt.old ?_ (by first | (simp only [*]; done) | (simp only [upd_none]; assumption) | (simp only [upd_none, *, not_false_eq_true, and_self]; done)) _))) ?_
      rw [hF]
def clrO (o : Obj) : Obj := ⟨⟨#[]⟩, o.kind, o.x, o.y, o.refs, o.tags⟩
def fitR (κ : Int) (a b : Edit) : Bool := if κ = 4 then !decide (a.obj.id = b.obj.id) && decide (clrO a.obj = clrO b.obj) else !decide (a.id = b.id)
theorem spec_fitr (κ : Int) (a b : Edit) (ha : EditFit a) {s : Nat → Option Blk} {k : Nat → Tk} : Spec prg 74 [.agg (encEdit a), .agg (encEdit b), .int .i64 κ] s k (.bool (fitR κ a b)) s k := by
  refine spec_tr prg_mixed tr_pref31_fit (Nat.le_of_ble_eq_true rfl) rfl ?_
  unfold pc_pref31_fit rs_pref31_fit
  have hS := fun s k => @spec_sameR (clrO a.obj) (clrO b.obj) ha.obj.refs ha.obj.tags s k
  have eA : encObj (clrO a.obj) = [.str ⟨#[]⟩, .int .i64 a.obj.kind, .int .i64 a.obj.x, .int .i64 a.obj.y, .sl 1 (a.obj.refs.map encStr) .no, .sl 2 (a.obj.tags.map encTag) .no] := rfl
  have eB : encObj (clrO b.obj) = [.str ⟨#[]⟩, .int .i64 b.obj.kind, .int .i64 b.obj.x, .int .i64 b.obj.y, .sl 1 (b.obj.refs.map encStr) .no, .sl 2 (b.obj.tags.map encTag) .no] := rfl
  simp only [eA, eB] at hS
  by_cases c : κ = 4
  · have d := decide_eq_true c
    have hF : fitR κ a b = (!decide (a.obj.id = b.obj.id) && decide (clrO a.obj = clrO b.obj)) := by unfold fitR; rw [if_pos c]
    generalize decide (clrO a.obj = clrO b.obj) = r at *
    simp only [sZ, initT, optI, splice, reduceIte, reduceCtorEq, Nat.reduceEqDiff, Nat.reduceAdd, Nat.reduceSub, Nat.reduceMul, Nat.reduceLeDiff, Nat.reduceLT, Int.reduceLT, Int.reduceLE, Int.reduceToNat, Int.reduceEq, Int.cast_ofNat_Int, encEdit]
    (with_reducible refine newS_in ?_); intro b3 f3; simp only [upd_none] at f3
    simp only [sZ, initT, optI, splice, reduceIte, reduceCtorEq, Nat.reduceEqDiff, Nat.reduceAdd, Nat.reduceSub, Nat.reduceMul, Nat.reduceLeDiff, Nat.reduceLT, Int.reduceLT, Int.reduceLE, Int.reduceToNat, Int.reduceEq, Int.cast_ofNat_Int, encEdit]
    (with_reducible refine newS_in ?_); intro b4 f4; simp only [upd_none] at f4
    simp only [sZ, initT, optI, splice, reduceIte, reduceCtorEq, Nat.reduceEqDiff, Nat.reduceAdd, Nat.reduceSub, Nat.reduceMul, Nat.reduceLeDiff, Nat.reduceLT, Int.reduceLT, Int.reduceLE, Int.reduceToNat, Int.reduceEq, Int.cast_ofNat_Int, f3, f4, d, Bool.not_true]
    (with_reducible refine newS_in ?_); intro b7 f7; simp only [upd_none] at f7
    simp only [sZ, initT, optI, splice, reduceIte, reduceCtorEq, Nat.reduceEqDiff, Nat.reduceAdd, Nat.reduceSub, Nat.reduceMul, Nat.reduceLeDiff, Nat.reduceLT, Int.reduceLT, Int.reduceLE, Int.reduceToNat, Int.reduceEq, Int.cast_ofNat_Int, f3, f4, f7]
    (with_reducible refine newS_in ?_); intro b8 f8; simp only [upd_none] at f8
    by_cases c2 : a.obj.id = b.obj.id
    · have d2 := decide_eq_true c2
      rw [d2, Bool.not_true, Bool.false_and] at hF
      simp only [sZ, initT, optI, splice, reduceIte, reduceCtorEq, Nat.reduceEqDiff, Nat.reduceAdd, Nat.reduceSub, Nat.reduceMul, Nat.reduceLeDiff, Nat.reduceLT, Int.reduceLT, Int.reduceLE, Int.reduceToNat, Int.reduceEq, Int.cast_ofNat_Int, f3, f4, f7, f8, d2, Bool.not_true]
      refine OutQ.eq (by repeat (first | exact SExt.refl _ | (refine SExt.old ?_ (by first | (simp only [*]; done) | (simp only [upd_none]; assumption) | (simp only [upd_none, *, not_false_eq_true, and_self]; done)) _))) ?_
      rw [hF]
    · have d2 := decide_eq_false c2
      rw [d2, Bool.not_false, Bool.true_and] at hF
      simp only [sZ, initT, optI, splice, reduceIte, reduceCtorEq, Nat.reduceEqDiff, Nat.reduceAdd, Nat.reduceSub, Nat.reduceMul, Nat.reduceLeDiff, Nat.reduceLT, Int.reduceLT, Int.reduceLE, Int.reduceToNat, Int.reduceEq, Int.cast_ofNat_Int, f3, f4, f7, f8, d2, Bool.not_false]
      refine callS_quiet (hS _ _) ?_
      simp only [sZ, initT, optI, splice, reduceIte, reduceCtorEq, Nat.reduceEqDiff, Nat.reduceAdd, Nat.reduceSub, Nat.reduceMul, Nat.reduceLeDiff, Nat.reduceLT, Int.reduceLT, Int.reduceLE, Int.reduceToNat, Int.reduceEq, Int.cast_ofNat_Int, f3, f4, f7, f8]
      refine OutQ.eq (by repeat (first | exact SExt.refl _ | (refine SExt.old ?_ (by first | (simp only [*]; done) | (simp only [upd_none]; assumption) | (simp only [upd_none, *, not_false_eq_true, and_self]; done)) _))) ?_
      rw [hF]
  · have d := decide_eq_false c
    have hF : fitR κ a b = !decide (a.id = b.id) := by unfold fitR; rw [if_neg c]
    simp only [sZ, initT, optI, splice, reduceIte, reduceCtorEq, Nat.reduceEqDiff, Nat.reduceAdd, Nat.reduceSub, Nat.reduceMul, Nat.reduceLeDiff, Nat.reduceLT, Int.reduceLT, Int.reduceLE, Int.reduceToNat, Int.reduceEq, Int.cast_ofNat_Int, encEdit]
    (with_reducible refine newS_in ?_); intro b3 f3; simp only [upd_none] at f3
    simp only [sZ, initT, optI, splice, reduceIte, reduceCtorEq, Nat.reduceEqDiff, Nat.reduceAdd, Nat.reduceSub, Nat.reduceMul, Nat.reduceLeDiff, Nat.reduceLT, Int.reduceLT, Int.reduceLE, Int.reduceToNat, Int.reduceEq, Int.cast_ofNat_Int, encEdit]
    (with_reducible refine newS_in ?_); intro b4 f4; simp only [upd_none] at f4
    simp only [sZ, initT, optI, splice, reduceIte, reduceCtorEq, Nat.reduceEqDiff, Nat.reduceAdd, Nat.reduceSub, Nat.reduceMul, Nat.reduceLeDiff, Nat.reduceLT, Int.reduceLT, Int.reduceLE, Int.reduceToNat, Int.reduceEq, Int.cast_ofNat_Int, f3, f4, d, Bool.not_false]
    refine OutQ.eq (by repeat (first | exact SExt.refl _ | (refine SExt.old ?_ (by first | (simp only [*]; done) | (simp only [upd_none]; assumption) | (simp only [upd_none, *, not_false_eq_true, and_self]; done)) _))) ?_
    rw [hF]
theorem put_obj {e : Edit} (h : editV e = true) (ho : e.op = 1) : objV e.obj = true := by
  unfold editV at h
  rw [Bool.and_eq_true, Bool.and_eq_true (okE e)] at h
  have h2 := h.2.1
  unfold okE at h2
  rw [if_pos ho] at h2
  exact h2
theorem fit_tog {κ : Int} {a b : Edit} (m : List Obj) (ha : editV a = true) (hb : editV b = true) (sa : showE m κ a = true) (sb : showE m κ b = true) (h1 : 1 ≤ κ) (h4 : κ ≤ 4) : fitR κ a b = togE κ a b := by
  unfold fitR togE
  split
  · rename_i c
    subst c
    congr 1
    have e : ∀ x : Edit, showE m 4 x = (decide (x.op = 1) && decide (x.obj.kind = 1)) := fun _ => rfl
    rw [e, Bool.and_eq_true, decide_eq_true_eq, decide_eq_true_eq] at sa sb
    have ra := node_refs (put_obj ha sa.1) sa.2
    have rb := node_refs (put_obj hb sb.1) sb.2
    rw [Bool.eq_iff_iff]
    unfold clrO
    simp only [decide_eq_true_eq, Bool.and_eq_true, Obj.mk.injEq, ra, rb, sa.2, sb.2, true_and]
    constructor
    · rintro ⟨h1, h2, h3⟩
      exact ⟨⟨h1, h2⟩, h3⟩
    · rintro ⟨⟨h1, h2⟩, h3⟩
      exact ⟨h1, h2, h3⟩
  · rfl
end Go.Pv
