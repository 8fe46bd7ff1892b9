/- Edits that are equal. -/
import Derived.Test.YtgmdhegbkbeihaaGreatZEvG
import Derived.Test.YtgmdhegbkbeihaaGreatZLawA
set_option linter.unusedVariables false
set_option linter.unusedSimpArgs false
set_option maxRecDepth 4000
set_option maxHeartbeats 2000000
namespace Go.Pv
open Go

theorem spec_eqStr (a b : List ByteArray) (hl : a.length < 4611686018427387904) {s : Nat → Option Blk} {k : Nat → Tk} : Spec prg 84 [.sl 1 (a.map encStr) .no, .sl 1 (b.map encStr) .no] s k (.bool (decide (a = b))) s k := by
  refine spec_tr prg_mixed tr_slices_Equal_string (Nat.le_of_ble_eq_true rfl) rfl ?_
  unfold pc_slices_Equal_string rs_slices_Equal_string
  by_cases hlen : a.length = b.length
  · have hd : (!decide ((a.length : Int) = (b.length : Int))) = false := by simp; omega
    simp only [sZ, initT, optI, splice, reduceIte, reduceCtorEq, Nat.reduceEqDiff, Nat.reduceAdd, Nat.reduceSub, Nat.reduceMul, Nat.reduceLeDiff, Nat.reduceLT, Int.reduceLT, Int.reduceLE, Int.reduceToNat, Int.reduceEq, Int.cast_ofNat_Int, hd]
    refine loop_L (α := Unit) a.length (fun j _ => [(0, .sl 1 (a.map encStr) .no), (1, .sl 1 (b.map encStr) .no), (12, .int .i64 a.length), (13, .int .i64 j)]) (fun j _ => s) (fun _ _ => k) (fun j _ => ∀ i (h : i < a.length) (h2 : i < b.length), i < j → a[i] = b[i]) () (SExt.refl _) rfl (by (try simp only [TabLe_cons, TabLe_nil, tab_cons, tab_nil, upd_apply, Nat.reduceEqDiff, reduceIte, and_true]); repeat' (first | exact trivial | exact A.le_refl _ | exact le_strip_no _ _ _ | exact A.le_no _ _ _ | exact A.le_empty _ _ _ | refine And.intro ?_ ?_)) (fun i _ _ h => by omega) ?_
    rintro j ⟨⟩ hj hall
    try dsimp only
    simp only [sZ, initT, optI, splice, reduceIte, reduceCtorEq, Nat.reduceEqDiff, Nat.reduceAdd, Nat.reduceSub, Nat.reduceMul, Nat.reduceLeDiff, Nat.reduceLT, Int.reduceLT, Int.reduceLE, Int.reduceToNat, Int.reduceEq, Int.cast_ofNat_Int]
    refine brC_in (fun hlt => ?_) (fun hge => ?_)
    · have hj' : j < a.length := by have := of_decide_eq_true hlt; omega
      clear hlt
      have hw := wrap_succ hj' (by omega)
      have ga : (a.map encStr)[j]? = some (encStr a[j]) := strE.get hj'
      have gb : (b.map encStr)[j]? = some (encStr b[j]) := strE.get (by omega)
      simp only [sZ, initT, optI, splice, reduceIte, reduceCtorEq, Nat.reduceEqDiff, Nat.reduceAdd, Nat.reduceSub, Nat.reduceMul, Nat.reduceLeDiff, Nat.reduceLT, Int.reduceLT, Int.reduceLE, Int.reduceToNat, Int.reduceEq, Int.cast_ofNat_Int, ga, gb, get_str]
      refine brC_in (fun hp1 => ?_) (fun hp0 => ?_)
      · have : a ≠ b := fun e => by subst e; simp at hp1
        simp only [sZ, initT, optI, splice, reduceIte, reduceCtorEq, Nat.reduceEqDiff, Nat.reduceAdd, Nat.reduceSub, Nat.reduceMul, Nat.reduceLeDiff, Nat.reduceLT, Int.reduceLT, Int.reduceLE, Int.reduceToNat, Int.reduceEq, Int.cast_ofNat_Int]
        refine OutQ.eq (by repeat (first | exact SExt.refl _ | (refine SExt.old ?_ (by first | (simp only [*]; done) | (simp only [upd_none]; assumption) | (simp only [upd_none, *, not_false_eq_true, and_self]; done)) _))) ?_
        rw [decide_eq_false this]
      · simp only [sZ, initT, optI, splice, reduceIte, reduceCtorEq, Nat.reduceEqDiff, Nat.reduceAdd, Nat.reduceSub, Nat.reduceMul, Nat.reduceLeDiff, Nat.reduceLT, Int.reduceLT, Int.reduceLE, Int.reduceToNat, Int.reduceEq, Int.cast_ofNat_Int, hw]
        refine next_L hj' () (SExt.refl _) rfl (by (try simp only [TabLe_cons, TabLe_nil, tab_cons, tab_nil, upd_apply, Nat.reduceEqDiff, reduceIte, and_true]); repeat' (first | exact trivial | exact A.le_refl _ | exact le_strip_no _ _ _ | exact A.le_no _ _ _ | exact A.le_empty _ _ _ | refine And.intro ?_ ?_)) fun i h1 h2 h3 => ?_
        by_cases h : i = j
        · subst h; simpa using hp0
        · exact hall i h1 h2 (by omega)
    · have hi' : ¬ j < a.length := by have := of_decide_eq_false hge; omega
      have : a = b := list_eq_of_get hlen fun i h1 h2 => hall i h1 h2 (by omega)
      simp only [sZ, initT, optI, splice, reduceIte, reduceCtorEq, Nat.reduceEqDiff, Nat.reduceAdd, Nat.reduceSub, Nat.reduceMul, Nat.reduceLeDiff, Nat.reduceLT, Int.reduceLT, Int.reduceLE, Int.reduceToNat, Int.reduceEq, Int.cast_ofNat_Int]
      refine OutQ.eq (by repeat (first | exact SExt.refl _ | (refine SExt.old ?_ (by first | (simp only [*]; done) | (simp only [upd_none]; assumption) | (simp only [upd_none, *, not_false_eq_true, and_self]; done)) _))) ?_
      rw [decide_eq_true this]
  · have hd : (!decide ((a.length : Int) = (b.length : Int))) = true := by simp; omega
    have : a ≠ b := fun e => hlen (by rw [e])
    simp only [sZ, initT, optI, splice, reduceIte, reduceCtorEq, Nat.reduceEqDiff, Nat.reduceAdd, Nat.reduceSub, Nat.reduceMul, Nat.reduceLeDiff, Nat.reduceLT, Int.reduceLT, Int.reduceLE, Int.reduceToNat, Int.reduceEq, Int.cast_ofNat_Int, hd]
    refine OutQ.eq (by repeat (first | exact SExt.refl _ | (refine SExt.old ?_ (by first | (simp only [*]; done) | (simp only [upd_none]; assumption) | (simp only [upd_none, *, not_false_eq_true, and_self]; done)) _))) ?_
    rw [decide_eq_false this]
def sameO (a b : Obj) : Bool := decide (a.id = b.id) && (decide (a.kind = b.kind) && ((decide (a.x = b.x) && decide (a.y = b.y)) && (decide (a.refs = b.refs) && decide (a.tags = b.tags))))
theorem spec_sameO (a b : Obj) (h1 : a.refs.length < 4611686018427387904) (h2 : a.tags.length < 4611686018427387904) {s : Nat → Option Blk} {k : Nat → Tk} : Spec prg 85 [.agg (encObj a), .agg (encObj b)] s k (.bool (sameO a b)) s k := by
  refine spec_tr prg_mixed tr_object_Same (Nat.le_of_ble_eq_true rfl) rfl ?_
  unfold pc_object_Same rs_object_Same
  have ho : sameO a b = (decide (a.id = b.id) && (decide (a.kind = b.kind) && ((decide (a.x = b.x) && decide (a.y = b.y)) && (decide (a.refs = b.refs) && decide (a.tags = b.tags))))) := rfl
  simp only [sZ, initT, optI, splice, reduceIte, reduceCtorEq, Nat.reduceEqDiff, Nat.reduceAdd, Nat.reduceSub, Nat.reduceMul, Nat.reduceLeDiff, Nat.reduceLT, Int.reduceLT, Int.reduceLE, Int.reduceToNat, Int.reduceEq, Int.cast_ofNat_Int, encObj]
  (with_reducible refine newS_in ?_); intro b2 f2; simp only [upd_none] at f2
  simp only [sZ, initT, optI, splice, reduceIte, reduceCtorEq, Nat.reduceEqDiff, Nat.reduceAdd, Nat.reduceSub, Nat.reduceMul, Nat.reduceLeDiff, Nat.reduceLT, Int.reduceLT, Int.reduceLE, Int.reduceToNat, Int.reduceEq, Int.cast_ofNat_Int]
  (with_reducible refine newS_in ?_); intro b3 f3; simp only [upd_none] at f3
  repeat' (first | (refine callS_quiet (spec_eqStr _ _ h1) ?_) | (refine callS_quiet (spec36 _ _ h2) ?_) | (first | (with_reducible refine newS_in ?_; intro _ hid_; simp only [upd_none] at hid_) | (with_reducible refine newR_in ?_; intro _ hid_ hih_; simp only [upd_none, upd_none', rr_eqs2, and_true] at hid_ hih_) | (with_reducible refine mkmS_in ?_; intro _ hid_; simp only [upd_none] at hid_)) | (with_reducible refine brC_in (fun h_ => ?_) (fun h_ => ?_)) | (with_reducible refine brG_in (fun h_ => ?_) (fun h_ => ?_)) | (with_reducible refine brN_in (fun h_ => ?_) (fun h_ => ?_)) | simp only [sZ, initT, optI, splice, reduceIte, reduceCtorEq, Nat.reduceEqDiff, Nat.reduceAdd, Nat.reduceSub, Nat.reduceMul, Nat.reduceLeDiff, Nat.reduceLT, Int.reduceLT, Int.reduceLE, Int.reduceToNat, Int.reduceEq, Int.cast_ofNat_Int, *, f2, f3, fit_pt, eq_pt, -h1, -h2, -ho])
  all_goals refine OutQ.eq (by repeat (first | exact SExt.refl _ | (refine SExt.old ?_ (by first | (simp only [*]; done) | (simp only [upd_none]; assumption) | (simp only [upd_none, *, not_false_eq_true, and_self]; done)) _))) ?_
  all_goals rw [ho]
  all_goals clear ho h1 h2 f2 f3
  all_goals simp_all only [Bool.not_eq_true', Bool.not_eq_false', Bool.not_not, Bool.not_true, Bool.not_false, Bool.and_true, Bool.true_and, Bool.and_false, Bool.false_and]
theorem fit_s4 (a b c d : ByteArray) : (fitBs [.str, .str, .str, .str] [.str a, .str b, .str c, .str d] = true) = True := by simp [fitBs, fitB]
theorem eq_s4 (a b c d a' b' c' d' : ByteArray) : eqCells [.str a, .str b, .str c, .str d] [.str a', .str b', .str c', .str d'] = some (decide (a = a') && (decide (b = b') && (decide (c = c') && decide (d = d')))) := by
  simp only [eqCells, Option.map_some, Bool.and_true, if_true]
def sameE (a b : Edit) : Bool :=
  decide (a.refs = b.refs) && (sameO a.obj b.obj && (decide (a.op = b.op) && ((decide (a.id = b.id) && (decide (a.other = b.other) && (decide (a.node = b.node) && decide (a.key = b.key)))) && (decide (a.val = b.val) && (decide (a.x = b.x) && decide (a.y = b.y))))))
theorem spec_sameE (a b : Edit) (h0 : a.refs.length < 4611686018427387904) (h1 : a.obj.refs.length < 4611686018427387904) (h2 : a.obj.tags.length < 4611686018427387904) {s : Nat → Option Blk} {k : Nat → Tk} : Spec prg 46 [.agg (encEdit a), .agg (encEdit b)] s k (.bool (sameE a b)) s k := by
  refine spec_tr prg_mixed tr_edit_same (Nat.le_of_ble_eq_true rfl) rfl ?_
  unfold pc_edit_same rs_edit_same
  obtain ⟨op, id, ot, no, x, y, ke, va, re, ob⟩ := a
  obtain ⟨op', id', ot', no', x', y', ke', va', re', ob'⟩ := b
  dsimp only at h0 h1 h2
  have ho : sameE ⟨op, id, ot, no, x, y, ke, va, re, ob⟩ ⟨op', id', ot', no', x', y', ke', va', re', ob'⟩ = (decide (re = re') && (sameO ob ob' && (decide (op = op') && ((decide (id = id') && (decide (ot = ot') && (decide (no = no') && decide (ke = ke')))) && (decide (va = va') && (decide (x = x') && decide (y = y'))))))) := rfl
  have hso := fun s k => @spec_sameO ob ob' h1 h2 s k
  simp only [encObj] at hso
  simp only [sZ, initT, optI, splice, reduceIte, reduceCtorEq, Nat.reduceEqDiff, Nat.reduceAdd, Nat.reduceSub, Nat.reduceMul, Nat.reduceLeDiff, Nat.reduceLT, Int.reduceLT, Int.reduceLE, Int.reduceToNat, Int.reduceEq, Int.cast_ofNat_Int, encEdit]
  (with_reducible refine newS_in ?_); intro b2 f2; simp only [upd_none] at f2
  simp only [sZ, initT, optI, splice, reduceIte, reduceCtorEq, Nat.reduceEqDiff, Nat.reduceAdd, Nat.reduceSub, Nat.reduceMul, Nat.reduceLeDiff, Nat.reduceLT, Int.reduceLT, Int.reduceLE, Int.reduceToNat, Int.reduceEq, Int.cast_ofNat_Int]
  (with_reducible refine newS_in ?_); intro b3 f3; simp only [upd_none] at f3
  repeat' (first | (refine callS_quiet (spec_eqStr _ _ h0) ?_) | (refine callS_quiet (hso _ _) ?_) | (first | (with_reducible refine newS_in ?_; intro _ hid_; simp only [upd_none] at hid_) | (with_reducible refine newR_in ?_; intro _ hid_ hih_; simp only [upd_none, upd_none', rr_eqs2, and_true] at hid_ hih_) | (with_reducible refine mkmS_in ?_; intro _ hid_; simp only [upd_none] at hid_)) | (with_reducible refine brC_in (fun h_ => ?_) (fun h_ => ?_)) | (with_reducible refine brG_in (fun h_ => ?_) (fun h_ => ?_)) | (with_reducible refine brN_in (fun h_ => ?_) (fun h_ => ?_)) | simp only [sZ, initT, optI, splice, reduceIte, reduceCtorEq, Nat.reduceEqDiff, Nat.reduceAdd, Nat.reduceSub, Nat.reduceMul, Nat.reduceLeDiff, Nat.reduceLT, Int.reduceLT, Int.reduceLE, Int.reduceToNat, Int.reduceEq, Int.cast_ofNat_Int, *, f2, f3, fit_pt, eq_pt, fit_s4, eq_s4, -h0, -h1, -h2, -ho, -hso])
  all_goals refine OutQ.eq (by repeat (first | exact SExt.refl _ | (refine SExt.old ?_ (by first | (simp only [*]; done) | (simp only [upd_none]; assumption) | (simp only [upd_none, *, not_false_eq_true, and_self]; done)) _))) ?_
  all_goals rw [ho]
  all_goals clear ho h0 h1 h2 f2 f3 hso
  all_goals simp_all only [Bool.not_eq_true', Bool.not_eq_false', Bool.not_not, Bool.not_true, Bool.not_false, Bool.and_true, Bool.true_and, Bool.and_false, Bool.false_and]
end Go.Pv
