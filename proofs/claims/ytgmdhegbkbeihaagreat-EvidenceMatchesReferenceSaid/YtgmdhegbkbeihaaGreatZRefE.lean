/- The reference's edits that are valid. -/
import Derived.Test.YtgmdhegbkbeihaaGreatZRefA
import Derived.Test.YtgmdhegbkbeihaaGreatZEvI
import Derived.Test.YtgmdhegbkbeihaaGreatZSam
set_option linter.unusedVariables false
set_option linter.unusedSimpArgs false
set_option maxRecDepth 4000
set_option maxHeartbeats 4000000
namespace Go.Pv
open Go

def bareE (e : Edit) : Edit :=
  if e.op = 1 then ⟨e.op, e.id, e.other, e.node, e.x, e.y, e.key, e.val, e.refs, zeroObj⟩
  else if e.op = 2 then ⟨e.op, ⟨#[]⟩, e.other, e.node, 0, 0, e.key, e.val, e.refs, e.obj⟩
  else if e.op = 3 then ⟨e.op, ⟨#[]⟩, e.other, e.node, e.x, e.y, ⟨#[]⟩, ⟨#[]⟩, e.refs, e.obj⟩
  else if e.op = 4 then ⟨e.op, ⟨#[]⟩, e.other, e.node, e.x, e.y, e.key, e.val, [], e.obj⟩
  else if e.op = 6 then ⟨e.op, ⟨#[]⟩, ⟨#[]⟩, ⟨#[]⟩, e.x, e.y, e.key, e.val, e.refs, e.obj⟩
  else if e.op = 7 then ⟨e.op, ⟨#[]⟩, ⟨#[]⟩, e.node, e.x, e.y, e.key, e.val, e.refs, e.obj⟩
  else ⟨e.op, ⟨#[]⟩, e.other, e.node, e.x, e.y, e.key, e.val, e.refs, e.obj⟩
theorem spec_bare (e : Edit) {s : Nat → Option Blk} {k : Nat → Tk} : Spec prg 109 [.agg (encEdit e)] s k (.agg (encEdit (bareE e))) s k := by
  refine spec_tr prg_mixed tr_pref21_bare (Nat.le_of_ble_eq_true rfl) rfl ?_
  unfold pc_pref21_bare rs_pref21_bare
  obtain ⟨op, id, ot, no, x, y, ke, va, re, ob⟩ := e
  generalize hR : encEdit (bareE ⟨op, id, ot, no, x, y, ke, va, re, ob⟩) = R
  simp only [sZ, initT, optI, splice, reduceIte, reduceCtorEq, Nat.reduceEqDiff, Nat.reduceAdd, Nat.reduceSub, Nat.reduceMul, Nat.reduceLeDiff, Nat.reduceLT, Int.reduceLT, Int.reduceLE, Int.reduceToNat, Int.reduceEq, Int.cast_ofNat_Int, encEdit]
  (with_reducible refine newS_in ?_); intro b1 f1; simp only [upd_none] at f1
  simp only [sZ, initT, optI, splice, reduceIte, reduceCtorEq, Nat.reduceEqDiff, Nat.reduceAdd, Nat.reduceSub, Nat.reduceMul, Nat.reduceLeDiff, Nat.reduceLT, Int.reduceLT, Int.reduceLE, Int.reduceToNat, Int.reduceEq, Int.cast_ofNat_Int, f1]
  (with_reducible refine newS_in ?_); intro b2 f2; simp only [upd_none] at f2
  by_cases c1 : op = 1
  · subst c1
    have hE : encEdit (bareE ⟨1, id, ot, no, x, y, ke, va, re, ob⟩) = encEdit ⟨1, id, ot, no, x, y, ke, va, re, zeroObj⟩ := rfl
    simp only [sZ, initT, optI, splice, reduceIte, reduceCtorEq, Nat.reduceEqDiff, Nat.reduceAdd, Nat.reduceSub, Nat.reduceMul, Nat.reduceLeDiff, Nat.reduceLT, Int.reduceLT, Int.reduceLE, Int.reduceToNat, Int.reduceEq, Int.cast_ofNat_Int, f1, f2, decide_true, decide_false]
    rw [← hR, hE]
    exact OutQ.le (by repeat (first | exact SExt.refl _ | (refine SExt.old ?_ (by first | (simp only [*]; done) | (simp only [upd_none]; assumption) | (simp only [upd_none, *, not_false_eq_true, and_self]; done)) _))) (A.le_agg (by repeat (first | exact A.lel.nil | refine A.lel.cons (by first | exact A.le_refl _ | exact A.le_empty _ _ _ | exact A.le_no _ _ _) ?_)))
  by_cases c2 : op = 2
  · subst c2
    have hE : encEdit (bareE ⟨2, id, ot, no, x, y, ke, va, re, ob⟩) = encEdit ⟨2, ⟨#[]⟩, ot, no, 0, 0, ke, va, re, ob⟩ := rfl
    simp only [sZ, initT, optI, splice, reduceIte, reduceCtorEq, Nat.reduceEqDiff, Nat.reduceAdd, Nat.reduceSub, Nat.reduceMul, Nat.reduceLeDiff, Nat.reduceLT, Int.reduceLT, Int.reduceLE, Int.reduceToNat, Int.reduceEq, Int.cast_ofNat_Int, f1, f2, decide_true, decide_false]
    rw [← hR, hE]
    exact OutQ.le (by repeat (first | exact SExt.refl _ | (refine SExt.old ?_ (by first | (simp only [*]; done) | (simp only [upd_none]; assumption) | (simp only [upd_none, *, not_false_eq_true, and_self]; done)) _))) (A.le_agg (by repeat (first | exact A.lel.nil | refine A.lel.cons (by first | exact A.le_refl _ | exact A.le_empty _ _ _ | exact A.le_no _ _ _) ?_)))
  by_cases c3 : op = 3
  · subst c3
    have hE : encEdit (bareE ⟨3, id, ot, no, x, y, ke, va, re, ob⟩) = encEdit ⟨3, ⟨#[]⟩, ot, no, x, y, ⟨#[]⟩, ⟨#[]⟩, re, ob⟩ := rfl
    simp only [sZ, initT, optI, splice, reduceIte, reduceCtorEq, Nat.reduceEqDiff, Nat.reduceAdd, Nat.reduceSub, Nat.reduceMul, Nat.reduceLeDiff, Nat.reduceLT, Int.reduceLT, Int.reduceLE, Int.reduceToNat, Int.reduceEq, Int.cast_ofNat_Int, f1, f2, decide_true, decide_false]
    rw [← hR, hE]
    exact OutQ.le (by repeat (first | exact SExt.refl _ | (refine SExt.old ?_ (by first | (simp only [*]; done) | (simp only [upd_none]; assumption) | (simp only [upd_none, *, not_false_eq_true, and_self]; done)) _))) (A.le_agg (by repeat (first | exact A.lel.nil | refine A.lel.cons (by first | exact A.le_refl _ | exact A.le_empty _ _ _ | exact A.le_no _ _ _) ?_)))
  by_cases c4 : op = 4
  · subst c4
    have hE : encEdit (bareE ⟨4, id, ot, no, x, y, ke, va, re, ob⟩) = encEdit ⟨4, ⟨#[]⟩, ot, no, x, y, ke, va, [], ob⟩ := rfl
    simp only [sZ, initT, optI, splice, reduceIte, reduceCtorEq, Nat.reduceEqDiff, Nat.reduceAdd, Nat.reduceSub, Nat.reduceMul, Nat.reduceLeDiff, Nat.reduceLT, Int.reduceLT, Int.reduceLE, Int.reduceToNat, Int.reduceEq, Int.cast_ofNat_Int, f1, f2, decide_true, decide_false]
    rw [← hR, hE]
    exact OutQ.le (by repeat (first | exact SExt.refl _ | (refine SExt.old ?_ (by first | (simp only [*]; done) | (simp only [upd_none]; assumption) | (simp only [upd_none, *, not_false_eq_true, and_self]; done)) _))) (A.le_agg (by repeat (first | exact A.lel.nil | refine A.lel.cons (by first | exact A.le_refl _ | exact A.le_empty _ _ _ | exact A.le_no _ _ _) ?_)))
  by_cases c6 : op = 6
  · subst c6
    have hE : encEdit (bareE ⟨6, id, ot, no, x, y, ke, va, re, ob⟩) = encEdit ⟨6, ⟨#[]⟩, ⟨#[]⟩, ⟨#[]⟩, x, y, ke, va, re, ob⟩ := rfl
    simp only [sZ, initT, optI, splice, reduceIte, reduceCtorEq, Nat.reduceEqDiff, Nat.reduceAdd, Nat.reduceSub, Nat.reduceMul, Nat.reduceLeDiff, Nat.reduceLT, Int.reduceLT, Int.reduceLE, Int.reduceToNat, Int.reduceEq, Int.cast_ofNat_Int, f1, f2, decide_true, decide_false]
    rw [← hR, hE]
    exact OutQ.le (by repeat (first | exact SExt.refl _ | (refine SExt.old ?_ (by first | (simp only [*]; done) | (simp only [upd_none]; assumption) | (simp only [upd_none, *, not_false_eq_true, and_self]; done)) _))) (A.le_agg (by repeat (first | exact A.lel.nil | refine A.lel.cons (by first | exact A.le_refl _ | exact A.le_empty _ _ _ | exact A.le_no _ _ _) ?_)))
  by_cases c7 : op = 7
  · subst c7
    have hE : encEdit (bareE ⟨7, id, ot, no, x, y, ke, va, re, ob⟩) = encEdit ⟨7, ⟨#[]⟩, ⟨#[]⟩, no, x, y, ke, va, re, ob⟩ := rfl
    simp only [sZ, initT, optI, splice, reduceIte, reduceCtorEq, Nat.reduceEqDiff, Nat.reduceAdd, Nat.reduceSub, Nat.reduceMul, Nat.reduceLeDiff, Nat.reduceLT, Int.reduceLT, Int.reduceLE, Int.reduceToNat, Int.reduceEq, Int.cast_ofNat_Int, f1, f2, decide_true, decide_false]
    rw [← hR, hE]
    exact OutQ.le (by repeat (first | exact SExt.refl _ | (refine SExt.old ?_ (by first | (simp only [*]; done) | (simp only [upd_none]; assumption) | (simp only [upd_none, *, not_false_eq_true, and_self]; done)) _))) (A.le_agg (by repeat (first | exact A.lel.nil | refine A.lel.cons (by first | exact A.le_refl _ | exact A.le_empty _ _ _ | exact A.le_no _ _ _) ?_)))
  have hE : encEdit (bareE ⟨op, id, ot, no, x, y, ke, va, re, ob⟩) = encEdit ⟨op, ⟨#[]⟩, ot, no, x, y, ke, va, re, ob⟩ := by
    unfold bareE
    rw [if_neg c1, if_neg c2, if_neg c3, if_neg c4, if_neg c6, if_neg c7]
  simp only [sZ, initT, optI, splice, reduceIte, reduceCtorEq, Nat.reduceEqDiff, Nat.reduceAdd, Nat.reduceSub, Nat.reduceMul, Nat.reduceLeDiff, Nat.reduceLT, Int.reduceLT, Int.reduceLE, Int.reduceToNat, Int.reduceEq, Int.cast_ofNat_Int, f1, f2, c1, c2, c3, c4, c6, c7, decide_false]
  rw [← hR, hE]
  exact OutQ.le (by repeat (first | exact SExt.refl _ | (refine SExt.old ?_ (by first | (simp only [*]; done) | (simp only [upd_none]; assumption) | (simp only [upd_none, *, not_false_eq_true, and_self]; done)) _))) (A.le_agg (by repeat (first | exact A.lel.nil | refine A.lel.cons (by first | exact A.le_refl _ | exact A.le_empty _ _ _ | exact A.le_no _ _ _) ?_)))
end Go.Pv
set_option linter.unusedVariables false
set_option linter.unusedSimpArgs false
set_option maxRecDepth 4000
set_option maxHeartbeats 4000000
namespace Go.Pv
open Go

def bareB (b : Edit) : Bool := (((((((!decide (b.id = ⟨#[]⟩) || !decide (b.other = ⟨#[]⟩)) || !decide (b.node = ⟨#[]⟩)) || !(decide (b.x = 0) && decide (b.y = 0))) || !decide (b.key = ⟨#[]⟩)) || !decide (b.val = ⟨#[]⟩)) || decide ((0 : Int) < b.refs.length)) || !decide (b.obj = zeroObj))
def namesR (e : Edit) : List ByteArray :=
  if e.op = 3 then [e.id, e.key] else if e.op = 4 then e.id :: e.refs else if e.op = 6 then [e.id, e.node, e.other] else if e.op = 7 then [e.id, e.other] else [e.id]
def validR (e : Edit) : Bool :=
  (decide (1 ≤ e.op) && decide (e.op ≤ 7)) && (!bareB (bareE e) && (if e.op = 1 then objV e.obj else (namesR e).all nameF &&
    (!(decide (e.op = 4) && (decide ((e.refs.length : Int) < 1) || decide ((2000 : Int) < e.refs.length))) && (decide ((e.val.size : Int) ≤ 200) && (!decide (e.op = 2) || gridF e.x e.y)))))
theorem grid_on (x y : Int) : gridF x y = (decide (0 ≤ min x y) && decide (max x y < 1048576)) := by
  unfold gridF
  rw [Bool.eq_iff_iff]
  simp only [Bool.and_eq_true, decide_eq_true_eq]
  omega
theorem validR_eq (e : Edit) : validR e = editV e := by
  obtain ⟨op, id, ot, no, x, y, ke, va, re, ob⟩ := e
  have z0 : ∀ l : List ByteArray, decide ((0 : Int) < l.length) = !decide (l = []) := by
    intro l
    cases l with
    | nil => rfl
    | cons a l => simp
  have hv : ∀ v : ByteArray, v = ⟨#[]⟩ → v.size = 0 := fun v h => by rw [h]; rfl
  have hcm : ∀ v : ByteArray, decide (v = ⟨#[]⟩) = decide (⟨#[]⟩ = v) := fun v => dec_comm _ _
  have hx0 : ∀ v : Int, decide (v = 0) = decide (0 = v) := fun v => by simp [eq_comm]
  by_cases c : 1 ≤ op ∧ op ≤ 7
  · obtain ⟨n, hn⟩ : ∃ n : Nat, op = n := ⟨op.toNat, by omega⟩
    subst hn
    have hn7 : n = 1 ∨ n = 2 ∨ n = 3 ∨ n = 4 ∨ n = 5 ∨ n = 6 ∨ n = 7 := by omega
    rw [Bool.eq_iff_iff]
    rcases hn7 with rfl | rfl | rfl | rfl | rfl | rfl | rfl
    all_goals
      simp only [validR, editV, bareB, bareE, okE, wantE, sameE, sameO_iff, namesR, z0, grid_on, Int.cast_ofNat_Int, Int.natCast_one, Int.reduceEq, Int.reduceLE, reduceIte, decide_true, decide_false, Bool.and_eq_true, Bool.true_and, Bool.and_true, Bool.not_eq_true', Bool.or_eq_false_iff, Bool.not_eq_false', Bool.not_true, Bool.not_false, Bool.false_and, Bool.true_or, Bool.false_or, decide_eq_true_eq, decide_eq_false_iff_not, List.all_cons, List.all_nil, Bool.not_not]
      have hz : (ByteArray.mk #[]).size = 0 := rfl
      clear hcm hx0 hv
      grind
  · have h1 : (decide (1 ≤ op) && decide (op ≤ 7)) = false := by
      rw [Bool.and_eq_false_iff, decide_eq_false_iff_not, decide_eq_false_iff_not]
      omega
    have e1 : validR ⟨op, id, ot, no, x, y, ke, va, re, ob⟩ = ((decide (1 ≤ op) && decide (op ≤ 7)) && _) := rfl
    have e2 : editV ⟨op, id, ot, no, x, y, ke, va, re, ob⟩ = ((decide (1 ≤ op) && decide (op ≤ 7)) && _) := rfl
    rw [e1, e2, h1, Bool.false_and, Bool.false_and]
end Go.Pv
