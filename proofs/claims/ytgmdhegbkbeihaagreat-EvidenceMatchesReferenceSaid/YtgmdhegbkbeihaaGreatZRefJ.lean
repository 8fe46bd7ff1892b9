/- The reference's evidence: its parts. -/
import Derived.Test.YtgmdhegbkbeihaaGreatZRefI
import Derived.Test.YtgmdhegbkbeihaaGreatZSam
import Derived.Test.YtgmdhegbkbeihaaGreatZEvQ
set_option linter.unusedVariables false
set_option linter.unusedSimpArgs false
set_option maxRecDepth 4000
set_option maxHeartbeats 4000000
namespace Go.Pv
open Go

theorem spec_closed22 (m : List Obj) (hm : MapFit m) (hl : m.length < 1152921504606846976) {s : Nat → Option Blk} {k : Nat → Tk} : Spec prg 37 [.agg (encMap m)] s k (.bool (closedF m)) s k := by
  refine spec_tr prg_mixed tr_pref22_Closed (Nat.le_of_ble_eq_true rfl) rfl ?_
  unfold pc_pref22_Closed rs_pref22_Closed
  have hv := fun s k => @spec_mapr m hm s k
  have hso := fun (h : mapV m = true) (o : Obj) (ho : o ∈ m) s k => @spec_sound m o ho h hm hl s k
  simp only [encMap] at hv hso
  simp only [sZ, initT, optI, splice, reduceIte, reduceCtorEq, Nat.reduceEqDiff, Nat.reduceAdd, Nat.reduceSub, Nat.reduceMul, Nat.reduceLeDiff, Nat.reduceLT, Int.reduceLT, Int.reduceLE, Int.reduceToNat, Int.reduceEq, Int.cast_ofNat_Int, encMap]
  (with_reducible refine newS_in ?_); intro b1 f1; simp only [upd_none] at f1
  simp only [sZ, initT, optI, splice, reduceIte, reduceCtorEq, Nat.reduceEqDiff, Nat.reduceAdd, Nat.reduceSub, Nat.reduceMul, Nat.reduceLeDiff, Nat.reduceLT, Int.reduceLT, Int.reduceLE, Int.reduceToNat, Int.reduceEq, Int.cast_ofNat_Int, f1]
  refine callS_quiet (hv _ _) ?_
  cases hvm : mapV m
  · have : closedF m = false := by unfold closedF; rw [hvm]; rfl
    rw [this]
    simp only [sZ, initT, optI, splice, reduceIte, reduceCtorEq, Nat.reduceEqDiff, Nat.reduceAdd, Nat.reduceSub, Nat.reduceMul, Nat.reduceLeDiff, Nat.reduceLT, Int.reduceLT, Int.reduceLE, Int.reduceToNat, Int.reduceEq, Int.cast_ofNat_Int, f1, Bool.not_false]
    refine OutQ.eq (by repeat (first | exact SExt.refl _ | (refine SExt.old ?_ (by first | (simp only [*]; done) | (simp only [upd_none]; assumption) | (simp only [upd_none, *, not_false_eq_true, and_self]; done)) _))) rfl
  rw [← closed_sound hvm]
  simp only [sZ, initT, optI, splice, reduceIte, reduceCtorEq, Nat.reduceEqDiff, Nat.reduceAdd, Nat.reduceSub, Nat.reduceMul, Nat.reduceLeDiff, Nat.reduceLT, Int.reduceLT, Int.reduceLE, Int.reduceToNat, Int.reduceEq, Int.cast_ofNat_Int, f1, Bool.not_true]
  refine loop_L (α := Unit) m.length (fun j _ => [(1, .ptr b1 0), (3, .int .i64 j)]) (fun j _ => upd s b1 (some (.cells [.sl 6 (m.map encObj) .no]))) (fun _ _ => k) (fun j _ => ∀ i (h : i < m.length), i < j → sound2 m m[i] = true) () (SExt.refl _) rfl (by (try simp only [TabLe_cons, TabLe_nil, tab_cons, tab_nil, upd_apply, Nat.reduceEqDiff, reduceIte, and_true]); repeat' (first | exact trivial | exact A.le_refl _ | exact le_strip_no _ _ _ | exact A.le_no _ _ _ | exact A.le_empty _ _ _ | refine And.intro ?_ ?_)) (fun i _ h => by omega) ?_
  rintro j ⟨⟩ hj hall
  try dsimp only
  simp only [sZ, initT, optI, splice, reduceIte, reduceCtorEq, Nat.reduceEqDiff, Nat.reduceAdd, Nat.reduceSub, Nat.reduceMul, Nat.reduceLeDiff, Nat.reduceLT, Int.reduceLT, Int.reduceLE, Int.reduceToNat, Int.reduceEq, Int.cast_ofNat_Int, f1]
  refine brC_in (fun hlt => ?_) (fun hge => ?_)
  · have hj' : j < m.length := by have := of_decide_eq_true hlt; omega
    clear hlt
    have hw := wrap_succ hj' (by omega)
    have hg : (m.map encObj)[j]? = some (encObj m[j]) := objE.get hj'
    simp only [sZ, initT, optI, splice, reduceIte, reduceCtorEq, Nat.reduceEqDiff, Nat.reduceAdd, Nat.reduceSub, Nat.reduceMul, Nat.reduceLeDiff, Nat.reduceLT, Int.reduceLT, Int.reduceLE, Int.reduceToNat, Int.reduceEq, Int.cast_ofNat_Int, f1, hg, len_encObj, wh_encObj, st_encObj]
    refine callQS_quiet (hso hvm m[j] (List.getElem_mem hj') _ _) ?_
    cases c : sound2 m m[j]
    · rw [all_first hj' c]
      simp only [sZ, initT, optI, splice, reduceIte, reduceCtorEq, Nat.reduceEqDiff, Nat.reduceAdd, Nat.reduceSub, Nat.reduceMul, Nat.reduceLeDiff, Nat.reduceLT, Int.reduceLT, Int.reduceLE, Int.reduceToNat, Int.reduceEq, Int.cast_ofNat_Int, f1, Bool.not_false]
      refine OutQ.eq (by repeat (first | exact SExt.refl _ | (refine SExt.old ?_ (by first | (simp only [*]; done) | (simp only [upd_none]; assumption) | (simp only [upd_none, *, not_false_eq_true, and_self]; done)) _))) rfl
    · simp only [sZ, initT, optI, splice, reduceIte, reduceCtorEq, Nat.reduceEqDiff, Nat.reduceAdd, Nat.reduceSub, Nat.reduceMul, Nat.reduceLeDiff, Nat.reduceLT, Int.reduceLT, Int.reduceLE, Int.reduceToNat, Int.reduceEq, Int.cast_ofNat_Int, f1, Bool.not_true, hw]
      refine next_L hj' () (SExt.refl _) rfl (by (try simp only [TabLe_cons, TabLe_nil, tab_cons, tab_nil, upd_apply, Nat.reduceEqDiff, reduceIte, and_true]); repeat' (first | exact trivial | exact A.le_refl _ | exact le_strip_no _ _ _ | exact A.le_no _ _ _ | exact A.le_empty _ _ _ | refine And.intro ?_ ?_)) fun i hi h3 => ?_
      by_cases hij : i = j
      · subst hij; exact c
      · exact hall i hi (by omega)
  · have hje : j = m.length := by have := of_decide_eq_false hge; omega
    subst hje
    rw [all_through fun i h => hall i h h]
    simp only [sZ, initT, optI, splice, reduceIte, reduceCtorEq, Nat.reduceEqDiff, Nat.reduceAdd, Nat.reduceSub, Nat.reduceMul, Nat.reduceLeDiff, Nat.reduceLT, Int.reduceLT, Int.reduceLE, Int.reduceToNat, Int.reduceEq, Int.cast_ofNat_Int]
    refine OutQ.eq (by repeat (first | exact SExt.refl _ | (refine SExt.old ?_ (by first | (simp only [*]; done) | (simp only [upd_none]; assumption) | (simp only [upd_none, *, not_false_eq_true, and_self]; done)) _))) rfl
theorem spec_get09 (l : List Tag) (key : ByteArray) (hl : l.length < 4611686018427387904) {s : Nat → Option Blk} {k : Nat → Tk} : Spec prg 113 [.sl 2 (l.map encTag) .no, .str key] s k (.tup [.str (tagG l key).1, .bool (tagG l key).2]) s k := by
  refine spec_tr prg_mixed tr_pref09_Get (Nat.le_of_ble_eq_true rfl) rfl ?_
  unfold pc_pref09_Get rs_pref09_Get
  simp only [sZ, initT, optI, splice, reduceIte, reduceCtorEq, Nat.reduceEqDiff, Nat.reduceAdd, Nat.reduceSub, Nat.reduceMul, Nat.reduceLeDiff, Nat.reduceLT, Int.reduceLT, Int.reduceLE, Int.reduceToNat, Int.reduceEq, Int.cast_ofNat_Int]
  refine loop_L (α := Unit) l.length (fun j _ => [(0, .sl 2 (l.map encTag) .no), (1, .str key), (6, .int .i64 j)]) (fun j _ => s) (fun _ _ => k) (fun j _ => ∀ i (h : i < l.length), i < j → decide (l[i].key = key) = false) () (SExt.refl _) rfl (by (try simp only [TabLe_cons, TabLe_nil, tab_cons, tab_nil, upd_apply, Nat.reduceEqDiff, reduceIte, and_true]); repeat' (first | exact trivial | exact A.le_refl _ | exact le_strip_no _ _ _ | exact A.le_no _ _ _ | exact A.le_empty _ _ _ | refine And.intro ?_ ?_)) (fun i _ h => by omega) ?_
  rintro j ⟨⟩ hj hall
  try dsimp only
  simp only [sZ, initT, optI, splice, reduceIte, reduceCtorEq, Nat.reduceEqDiff, Nat.reduceAdd, Nat.reduceSub, Nat.reduceMul, Nat.reduceLeDiff, Nat.reduceLT, Int.reduceLT, Int.reduceLE, Int.reduceToNat, Int.reduceEq, Int.cast_ofNat_Int]
  refine brC_in (fun hlt => ?_) (fun hge => ?_)
  · have hj' : j < l.length := by have := of_decide_eq_true hlt; omega
    clear hlt
    have hw := wrap_succ hj' (by omega)
    have hg : (l.map encTag)[j]? = some (encTag l[j]) := tagE.get hj'
    simp only [sZ, initT, optI, splice, reduceIte, reduceCtorEq, Nat.reduceEqDiff, Nat.reduceAdd, Nat.reduceSub, Nat.reduceMul, Nat.reduceLeDiff, Nat.reduceLT, Int.reduceLT, Int.reduceLE, Int.reduceToNat, Int.reduceEq, Int.cast_ofNat_Int, hg, encTag]
    refine brC_in (fun h1 => ?_) (fun h1 => ?_)
    · simp only [sZ, initT, optI, splice, reduceIte, reduceCtorEq, Nat.reduceEqDiff, Nat.reduceAdd, Nat.reduceSub, Nat.reduceMul, Nat.reduceLeDiff, Nat.reduceLT, Int.reduceLT, Int.reduceLE, Int.reduceToNat, Int.reduceEq, Int.cast_ofNat_Int, hg, encTag]
      have hfd : l.find? (fun t => decide (t.key = key)) = some l[j] := by
        rw [List.find?_eq_some_iff_getElem]
        exact ⟨h1, j, hj', rfl, fun i hi => by rw [hall i (by omega) hi]; rfl⟩
      have hG : tagG l key = (l[j].val, true) := by unfold tagG; rw [hfd]
      rw [hG]
      refine OutQ.eq (by repeat (first | exact SExt.refl _ | (refine SExt.old ?_ (by first | (simp only [*]; done) | (simp only [upd_none]; assumption) | (simp only [upd_none, *, not_false_eq_true, and_self]; done)) _))) rfl
    · simp only [sZ, initT, optI, splice, reduceIte, reduceCtorEq, Nat.reduceEqDiff, Nat.reduceAdd, Nat.reduceSub, Nat.reduceMul, Nat.reduceLeDiff, Nat.reduceLT, Int.reduceLT, Int.reduceLE, Int.reduceToNat, Int.reduceEq, Int.cast_ofNat_Int, hw]
      refine next_L hj' () (by repeat (first | exact SExt.refl _ | (refine SExt.old ?_ (by first | (simp only [*]; done) | (simp only [upd_none]; assumption) | (simp only [upd_none, *, not_false_eq_true, and_self]; done)) _))) rfl (by (try simp only [TabLe_cons, TabLe_nil, tab_cons, tab_nil, upd_apply, Nat.reduceEqDiff, reduceIte, and_true]); repeat' (first | exact trivial | exact A.le_refl _ | exact le_strip_no _ _ _ | exact A.le_no _ _ _ | exact A.le_empty _ _ _ | refine And.intro ?_ ?_)) fun i hi h3 => ?_
      by_cases hij : i = j
      · subst hij; exact h1
      · exact hall i hi (by omega)
  · have hje : j = l.length := by have := of_decide_eq_false hge; omega
    subst hje
    have hfd : l.find? (fun t => decide (t.key = key)) = none := by
      rw [List.find?_eq_none]
      intro t ht
      obtain ⟨i, hi, rfl⟩ := List.getElem_of_mem ht
      rw [hall i hi hi]
      simp
    have hG : tagG l key = (⟨#[]⟩, false) := by unfold tagG; rw [hfd]
    rw [hG]
    simp only [sZ, initT, optI, splice, reduceIte, reduceCtorEq, Nat.reduceEqDiff, Nat.reduceAdd, Nat.reduceSub, Nat.reduceMul, Nat.reduceLeDiff, Nat.reduceLT, Int.reduceLT, Int.reduceLE, Int.reduceToNat, Int.reduceEq, Int.cast_ofNat_Int]
    refine OutQ.eq (by repeat (first | exact SExt.refl _ | (refine SExt.old ?_ (by first | (simp only [*]; done) | (simp only [upd_none]; assumption) | (simp only [upd_none, *, not_false_eq_true, and_self]; done)) _))) rfl
def nearR (x y : Int) : Bool := decide (-2097152 ≤ x) && (decide (x ≤ 2097152) && (decide (-2097152 ≤ y) && decide (y ≤ 2097152)))
theorem near_eq (x y : Int) : nearR x y = nearP (x, y) := by
  unfold nearR nearP
  rw [Bool.eq_iff_iff]
  simp only [Bool.and_eq_true, decide_eq_true_eq, Bool.not_eq_true', Bool.or_eq_false_iff, decide_eq_false_iff_not]
  omega
theorem spec_is (x y : Int) {s : Nat → Option Blk} {k : Nat → Tk} : Spec prg 149 [.agg [.int .i64 x, .int .i64 y]] s k (.bool (nearP (x, y))) s k := by
  refine spec_tr prg_mixed tr_pref03_Is (Nat.le_of_ble_eq_true rfl) rfl ?_
  unfold pc_pref03_Is rs_pref03_Is
  rw [← near_eq]
  have hF : nearR x y = (decide (-2097152 ≤ x) && (decide (x ≤ 2097152) && (decide (-2097152 ≤ y) && decide (y ≤ 2097152)))) := rfl
  simp only [sZ, initT, optI, splice, reduceIte, reduceCtorEq, Nat.reduceEqDiff, Nat.reduceAdd, Nat.reduceSub, Nat.reduceMul, Nat.reduceLeDiff, Nat.reduceLT, Int.reduceLT, Int.reduceLE, Int.reduceToNat, Int.reduceEq, Int.cast_ofNat_Int]
  (with_reducible refine newS_in ?_); intro b1 f1; simp only [upd_none] at f1
  by_cases c1 : -2097152 ≤ x
  case neg =>
    have d1 := decide_eq_false c1
    simp only [sZ, initT, optI, splice, reduceIte, reduceCtorEq, Nat.reduceEqDiff, Nat.reduceAdd, Nat.reduceSub, Nat.reduceMul, Nat.reduceLeDiff, Nat.reduceLT, Int.reduceLT, Int.reduceLE, Int.reduceToNat, Int.reduceEq, Int.cast_ofNat_Int, f1, d1]
    refine OutQ.eq (by repeat (first | exact SExt.refl _ | (refine SExt.old ?_ (by first | (simp only [*]; done) | (simp only [upd_none]; assumption) | (simp only [upd_none, *, not_false_eq_true, and_self]; done)) _))) ?_
    rw [hF, d1, Bool.false_and]
  have d1 := decide_eq_true c1
  by_cases c2 : x ≤ 2097152
  case neg =>
    have d2 := decide_eq_false c2
    simp only [sZ, initT, optI, splice, reduceIte, reduceCtorEq, Nat.reduceEqDiff, Nat.reduceAdd, Nat.reduceSub, Nat.reduceMul, Nat.reduceLeDiff, Nat.reduceLT, Int.reduceLT, Int.reduceLE, Int.reduceToNat, Int.reduceEq, Int.cast_ofNat_Int, f1, d1, d2]
    refine OutQ.eq (by repeat (first | exact SExt.refl _ | (refine SExt.old ?_ (by first | (simp only [*]; done) | (simp only [upd_none]; assumption) | (simp only [upd_none, *, not_false_eq_true, and_self]; done)) _))) ?_
    rw [hF, d1, d2, Bool.false_and, Bool.and_false]
  have d2 := decide_eq_true c2
  by_cases c3 : -2097152 ≤ y
  case neg =>
    have d3 := decide_eq_false c3
    simp only [sZ, initT, optI, splice, reduceIte, reduceCtorEq, Nat.reduceEqDiff, Nat.reduceAdd, Nat.reduceSub, Nat.reduceMul, Nat.reduceLeDiff, Nat.reduceLT, Int.reduceLT, Int.reduceLE, Int.reduceToNat, Int.reduceEq, Int.cast_ofNat_Int, f1, d1, d2, d3]
    refine OutQ.eq (by repeat (first | exact SExt.refl _ | (refine SExt.old ?_ (by first | (simp only [*]; done) | (simp only [upd_none]; assumption) | (simp only [upd_none, *, not_false_eq_true, and_self]; done)) _))) ?_
    rw [hF, d1, d2, d3, Bool.false_and, Bool.and_false, Bool.and_false]
  have d3 := decide_eq_true c3
  simp only [sZ, initT, optI, splice, reduceIte, reduceCtorEq, Nat.reduceEqDiff, Nat.reduceAdd, Nat.reduceSub, Nat.reduceMul, Nat.reduceLeDiff, Nat.reduceLT, Int.reduceLT, Int.reduceLE, Int.reduceToNat, Int.reduceEq, Int.cast_ofNat_Int, f1, d1, d2, d3]
  refine OutQ.eq (by repeat (first | exact SExt.refl _ | (refine SExt.old ?_ (by first | (simp only [*]; done) | (simp only [upd_none]; assumption) | (simp only [upd_none, *, not_false_eq_true, and_self]; done)) _))) ?_
  rw [hF, d1, d2, d3, Bool.true_and, Bool.true_and, Bool.true_and]
theorem spec_dist3 (x1 y1 x2 y2 : Int) {s : Nat → Option Blk} {k : Nat → Tk} : Spec prg 114 [.agg [.int .i64 x1, .int .i64 y1], .agg [.int .i64 x2, .int .i64 y2]] s k (.int .i64 (distF x1 y1 x2 y2)) s k := by
  refine spec_tr prg_mixed tr_pref03_Distance (Nat.le_of_ble_eq_true rfl) rfl ?_
  unfold pc_pref03_Distance rs_pref03_Distance
  simp only [sZ, initT, optI, splice, reduceIte, reduceCtorEq, Nat.reduceEqDiff, Nat.reduceAdd, Nat.reduceSub, Nat.reduceMul, Nat.reduceLeDiff, Nat.reduceLT, Int.reduceLT, Int.reduceLE, Int.reduceToNat, Int.reduceEq, Int.cast_ofNat_Int]
  (with_reducible refine newS_in ?_); intro b2 f2; simp only [upd_none] at f2
  simp only [sZ, initT, optI, splice, reduceIte, reduceCtorEq, Nat.reduceEqDiff, Nat.reduceAdd, Nat.reduceSub, Nat.reduceMul, Nat.reduceLeDiff, Nat.reduceLT, Int.reduceLT, Int.reduceLE, Int.reduceToNat, Int.reduceEq, Int.cast_ofNat_Int]
  (with_reducible refine newS_in ?_); intro b3 f3; simp only [upd_none] at f3
  simp only [sZ, initT, optI, splice, reduceIte, reduceCtorEq, Nat.reduceEqDiff, Nat.reduceAdd, Nat.reduceSub, Nat.reduceMul, Nat.reduceLeDiff, Nat.reduceLT, Int.reduceLT, Int.reduceLE, Int.reduceToNat, Int.reduceEq, Int.cast_ofNat_Int, f2, f3]
  refine callS_quiet (spec_is _ _) ?_
  cases hN : nearP (x1, y1)
  · have hd : distF x1 y1 x2 y2 = 0 := by unfold distF; simp only [List.all_cons, hN, Bool.false_and, cond_false]
    rw [hd]
    simp only [sZ, initT, optI, splice, reduceIte, reduceCtorEq, Nat.reduceEqDiff, Nat.reduceAdd, Nat.reduceSub, Nat.reduceMul, Nat.reduceLeDiff, Nat.reduceLT, Int.reduceLT, Int.reduceLE, Int.reduceToNat, Int.reduceEq, Int.cast_ofNat_Int, f2, f3, Bool.not_false]
    refine OutQ.eq (by repeat (first | exact SExt.refl _ | (refine SExt.old ?_ (by first | (simp only [*]; done) | (simp only [upd_none]; assumption) | (simp only [upd_none, *, not_false_eq_true, and_self]; done)) _))) rfl
  simp only [sZ, initT, optI, splice, reduceIte, reduceCtorEq, Nat.reduceEqDiff, Nat.reduceAdd, Nat.reduceSub, Nat.reduceMul, Nat.reduceLeDiff, Nat.reduceLT, Int.reduceLT, Int.reduceLE, Int.reduceToNat, Int.reduceEq, Int.cast_ofNat_Int, f2, f3, Bool.not_true]
  refine callS_quiet (spec_is _ _) ?_
  cases hN2 : nearP (x2, y2)
  · have hd : distF x1 y1 x2 y2 = 0 := by unfold distF; simp only [List.all_cons, hN, hN2, Bool.false_and, Bool.and_false, cond_false]
    rw [hd]
    simp only [sZ, initT, optI, splice, reduceIte, reduceCtorEq, Nat.reduceEqDiff, Nat.reduceAdd, Nat.reduceSub, Nat.reduceMul, Nat.reduceLeDiff, Nat.reduceLT, Int.reduceLT, Int.reduceLE, Int.reduceToNat, Int.reduceEq, Int.cast_ofNat_Int, f2, f3, Bool.not_false]
    refine OutQ.eq (by repeat (first | exact SExt.refl _ | (refine SExt.old ?_ (by first | (simp only [*]; done) | (simp only [upd_none]; assumption) | (simp only [upd_none, *, not_false_eq_true, and_self]; done)) _))) rfl
  have hd : distF x1 y1 x2 y2 = (x2 - x1) * (x2 - x1) + (y2 - y1) * (y2 - y1) := by unfold distF; simp only [List.all_cons, List.all_nil, hN, hN2, Bool.and_true, cond_true]
  rw [hd]
  simp only [sZ, initT, optI, splice, reduceIte, reduceCtorEq, Nat.reduceEqDiff, Nat.reduceAdd, Nat.reduceSub, Nat.reduceMul, Nat.reduceLeDiff, Nat.reduceLT, Int.reduceLT, Int.reduceLE, Int.reduceToNat, Int.reduceEq, Int.cast_ofNat_Int, f2, f3, Bool.not_true]
  refine OutQ.eq (by repeat (first | exact SExt.refl _ | (refine SExt.old ?_ (by first | (simp only [*]; done) | (simp only [upd_none]; assumption) | (simp only [upd_none, *, not_false_eq_true, and_self]; done)) _))) ?_
  simp only [nearP, Bool.not_eq_true', Bool.or_eq_false_iff, decide_eq_false_iff_not] at hN hN2
  obtain ⟨a1, a2⟩ := hN
  obtain ⟨a3, a4⟩ := hN2
  have w1 : IntKind.i64.wrap (x1 - x2) = x1 - x2 := wrap64 (by omega) (by omega)
  have w2 : IntKind.i64.wrap (y1 - y2) = y1 - y2 := wrap64 (by omega) (by omega)
  have q1 := @sq_bound (x1 - x2) (by omega) (by omega)
  have q2 := @sq_bound (y1 - y2) (by omega) (by omega)
  have w3 : IntKind.i64.wrap ((x1 - x2) * (x1 - x2)) = (x1 - x2) * (x1 - x2) := wrap64 (by omega) (by omega)
  have w4 : IntKind.i64.wrap ((y1 - y2) * (y1 - y2)) = (y1 - y2) * (y1 - y2) := wrap64 (by omega) (by omega)
  have n1 : (x2 - x1) * (x2 - x1) = (x1 - x2) * (x1 - x2) := by
    have : x2 - x1 = -(x1 - x2) := by omega
    rw [this, Int.neg_mul_neg]
  have n2 : (y2 - y1) * (y2 - y1) = (y1 - y2) * (y1 - y2) := by
    have : y2 - y1 = -(y1 - y2) := by omega
    rw [this, Int.neg_mul_neg]
  rw [w1, w2, w3, w4, wrap64 (by omega) (by omega), n1, n2]
theorem spec_oldr (l : List Obj) (i : ByteArray) {s : Nat → Option Blk} {k : Nat → Tk} (hl : l.length < 4611686018427387904) : Spec prg 112 [.agg (encMap l), .str i] s k (.tup [.agg (encObj (objF l i).1), .bool (objF l i).2]) s k := by
  refine spec_tr prg_mixed tr_pref31_old (Nat.le_of_ble_eq_true rfl) rfl ?_
  unfold pc_pref31_old rs_pref31_old
  have hf := fun s k => @spec_findr l i hl s k
  simp only [encMap] at hf
  simp only [sZ, initT, optI, splice, reduceIte, reduceCtorEq, Nat.reduceEqDiff, Nat.reduceAdd, Nat.reduceSub, Nat.reduceMul, Nat.reduceLeDiff, Nat.reduceLT, Int.reduceLT, Int.reduceLE, Int.reduceToNat, Int.reduceEq, Int.cast_ofNat_Int, encMap]
  (with_reducible refine newS_in ?_); intro b2 f2; simp only [upd_none] at f2
  simp only [sZ, initT, optI, splice, reduceIte, reduceCtorEq, Nat.reduceEqDiff, Nat.reduceAdd, Nat.reduceSub, Nat.reduceMul, Nat.reduceLeDiff, Nat.reduceLT, Int.reduceLT, Int.reduceLE, Int.reduceToNat, Int.reduceEq, Int.cast_ofNat_Int, f2]
  (with_reducible refine newS_in ?_); intro b4 f4; simp only [upd_none] at f4
  simp only [sZ, initT, optI, splice, reduceIte, reduceCtorEq, Nat.reduceEqDiff, Nat.reduceAdd, Nat.reduceSub, Nat.reduceMul, Nat.reduceLeDiff, Nat.reduceLT, Int.reduceLT, Int.reduceLE, Int.reduceToNat, Int.reduceEq, Int.cast_ofNat_Int, f2, f4]
  refine callS_quiet (hf _ _) ?_
  rcases idxOf_cases (fun o : Obj => decide (o.id = i)) l with ⟨h1, h2⟩ | ⟨j, hj, h1, h2⟩
  · have hF : objF l i = (zeroObj, false) := by rw [objF, h2]
    rw [h1, hF]
    simp only [sZ, initT, optI, splice, reduceIte, reduceCtorEq, Nat.reduceEqDiff, Nat.reduceAdd, Nat.reduceSub, Nat.reduceMul, Nat.reduceLeDiff, Nat.reduceLT, Int.reduceLT, Int.reduceLE, Int.reduceToNat, Int.reduceEq, Int.cast_ofNat_Int, f2, f4]
    exact OutQ.le (by repeat (first | exact SExt.refl _ | (refine SExt.old ?_ (by first | (simp only [*]; done) | (simp only [upd_none]; assumption) | (simp only [upd_none, *, not_false_eq_true, and_self]; done)) _))) (A.le_tup (.cons le_zero (.cons (A.le_refl _) .nil)))
  · have hg : (l.map encObj)[j]? = some (encObj l[j]) := objE.get hj
    have h3 : decide ((j : Int) < 0) = false := by simp
    have hF : objF l i = (l[j], true) := by rw [objF, h2]
    have h4 : (0 : Int) ≤ j := by omega
    have h5 : (j : Int) < l.length := by omega
    rw [h1, hF]
    simp only [sZ, initT, optI, splice, reduceIte, reduceCtorEq, Nat.reduceEqDiff, Nat.reduceAdd, Nat.reduceSub, Nat.reduceMul, Nat.reduceLeDiff, Nat.reduceLT, Int.reduceLT, Int.reduceLE, Int.reduceToNat, Int.reduceEq, Int.cast_ofNat_Int, f2, f4, h3, h4, h5, hg, len_encObj, wh_encObj, st_encObj]
    refine OutQ.eq (by repeat (first | exact SExt.refl _ | (refine SExt.old ?_ (by first | (simp only [*]; done) | (simp only [upd_none]; assumption) | (simp only [upd_none, *, not_false_eq_true, and_self]; done)) _))) rfl
theorem spec_manyr (kind : Int) {s : Nat → Option Blk} {k : Nat → Tk} : Spec prg 72 [.int .i64 kind] s k (.int .i64 (manyE kind : Nat)) s k := by
  refine spec_tr prg_mixed tr_pref31_Many (Nat.le_of_ble_eq_true rfl) rfl ?_
  unfold pc_pref31_Many rs_pref31_Many
  by_cases c1 : kind = 1
  · have d1 := decide_eq_true c1
    have e : manyE kind = 5 := by unfold manyE; rw [if_pos c1]
    rw [e]
    simp only [sZ, initT, optI, splice, reduceIte, reduceCtorEq, Nat.reduceEqDiff, Nat.reduceAdd, Nat.reduceSub, Nat.reduceMul, Nat.reduceLeDiff, Nat.reduceLT, Int.reduceLT, Int.reduceLE, Int.reduceToNat, Int.reduceEq, Int.cast_ofNat_Int, d1]
    refine OutQ.eq (by repeat (first | exact SExt.refl _ | (refine SExt.old ?_ (by first | (simp only [*]; done) | (simp only [upd_none]; assumption) | (simp only [upd_none, *, not_false_eq_true, and_self]; done)) _))) rfl
  have d1 := decide_eq_false c1
  by_cases c4 : kind = 4
  · have d4 := decide_eq_true c4
    have e : manyE kind = 4 := by unfold manyE; rw [if_neg c1, if_pos c4]
    rw [e]
    simp only [sZ, initT, optI, splice, reduceIte, reduceCtorEq, Nat.reduceEqDiff, Nat.reduceAdd, Nat.reduceSub, Nat.reduceMul, Nat.reduceLeDiff, Nat.reduceLT, Int.reduceLT, Int.reduceLE, Int.reduceToNat, Int.reduceEq, Int.cast_ofNat_Int, d1, d4]
    refine OutQ.eq (by repeat (first | exact SExt.refl _ | (refine SExt.old ?_ (by first | (simp only [*]; done) | (simp only [upd_none]; assumption) | (simp only [upd_none, *, not_false_eq_true, and_self]; done)) _))) rfl
  have d4 := decide_eq_false c4
  have e : manyE kind = 3 := by unfold manyE; rw [if_neg c1, if_neg c4]
  rw [e]
  simp only [sZ, initT, optI, splice, reduceIte, reduceCtorEq, Nat.reduceEqDiff, Nat.reduceAdd, Nat.reduceSub, Nat.reduceMul, Nat.reduceLeDiff, Nat.reduceLT, Int.reduceLT, Int.reduceLE, Int.reduceToNat, Int.reduceEq, Int.cast_ofNat_Int, d1, d4]
  refine OutQ.eq (by repeat (first | exact SExt.refl _ | (refine SExt.old ?_ (by first | (simp only [*]; done) | (simp only [upd_none]; assumption) | (simp only [upd_none, *, not_false_eq_true, and_self]; done)) _))) rfl
theorem spec_dropsr (l : List Edit) (hl : l.length < 70000) {s : Nat → Option Blk} {k : Nat → Tk} : Spec prg 75 [.sl 15 (l.map encEdit) .no] s k (.bool (decide (l.length < 2 * dropsF l))) s k := by
  refine spec_tr prg_mixed tr_pref31_drops (Nat.le_of_ble_eq_true rfl) rfl ?_
  unfold pc_pref31_drops rs_pref31_drops
  simp only [sZ, initT, optI, splice, reduceIte, reduceCtorEq, Nat.reduceEqDiff, Nat.reduceAdd, Nat.reduceSub, Nat.reduceMul, Nat.reduceLeDiff, Nat.reduceLT, Int.reduceLT, Int.reduceLE, Int.reduceToNat, Int.reduceEq, Int.cast_ofNat_Int]
  refine loop_L (α := Unit) l.length (fun j _ => [(0, .sl 15 (l.map encEdit) .no), (3, .int .i64 (dropsF (l.take j) : Nat)), (4, .int .i64 j)]) (fun _ _ => s) (fun _ _ => k) (fun _ _ => True) () (SExt.refl _) rfl (by (try simp only [TabLe_cons, TabLe_nil, tab_cons, tab_nil, upd_apply, Nat.reduceEqDiff, reduceIte, and_true]); repeat' (first | exact trivial | exact A.le_refl _ | exact le_strip_no _ _ _ | exact A.le_no _ _ _ | exact A.le_empty _ _ _ | refine And.intro ?_ ?_)) trivial ?_
  rintro j ⟨⟩ hj -
  try dsimp only
  simp only [sZ, initT, optI, splice, reduceIte, reduceCtorEq, Nat.reduceEqDiff, Nat.reduceAdd, Nat.reduceSub, Nat.reduceMul, Nat.reduceLeDiff, Nat.reduceLT, Int.reduceLT, Int.reduceLE, Int.reduceToNat, Int.reduceEq, Int.cast_ofNat_Int]
  refine brC_in (fun hlt => ?_) (fun hge => ?_)
  · have hj' : j < l.length := by have := of_decide_eq_true hlt; omega
    clear hlt
    have hw := wrap_succ hj' (by omega)
    have hg : (l.map encEdit)[j]? = some (encEdit l[j]) := editE.get hj'
    have h0 : (encEdit l[j])[0]? = some (.int .i64 l[j].op) := rfl
    have hd := dropsF_take l hj'
    have hle := dropsF_le (l.take j)
    have hle2 : (l.take j).length ≤ j := by simp; omega
    simp only [sZ, initT, optI, splice, reduceIte, reduceCtorEq, Nat.reduceEqDiff, Nat.reduceAdd, Nat.reduceSub, Nat.reduceMul, Nat.reduceLeDiff, Nat.reduceLT, Int.reduceLT, Int.reduceLE, Int.reduceToNat, Int.reduceEq, Int.cast_ofNat_Int, hg, h0]
    by_cases c : l[j].op = 5
    · have d := decide_eq_true c
      rw [d, if_pos rfl] at hd
      have hw2 : IntKind.i64.wrap (((dropsF (l.take j) : Nat) : Int) + 1) = ((dropsF (l.take j) + 1 : Nat) : Int) := wrap64 (by omega) (by omega)
      simp only [sZ, initT, optI, splice, reduceIte, reduceCtorEq, Nat.reduceEqDiff, Nat.reduceAdd, Nat.reduceSub, Nat.reduceMul, Nat.reduceLeDiff, Nat.reduceLT, Int.reduceLT, Int.reduceLE, Int.reduceToNat, Int.reduceEq, Int.cast_ofNat_Int, d, hw, hw2]
      refine next_L hj' () (SExt.refl _) rfl ?_ trivial
      rw [hd]
      exact (by (try simp only [TabLe_cons, TabLe_nil, tab_cons, tab_nil, upd_apply, Nat.reduceEqDiff, reduceIte, and_true]); repeat' (first | exact trivial | exact A.le_refl _ | exact le_strip_no _ _ _ | exact A.le_no _ _ _ | exact A.le_empty _ _ _ | refine And.intro ?_ ?_))
    · have d := decide_eq_false c
      rw [d, if_neg (by decide)] at hd
      simp only [sZ, initT, optI, splice, reduceIte, reduceCtorEq, Nat.reduceEqDiff, Nat.reduceAdd, Nat.reduceSub, Nat.reduceMul, Nat.reduceLeDiff, Nat.reduceLT, Int.reduceLT, Int.reduceLE, Int.reduceToNat, Int.reduceEq, Int.cast_ofNat_Int, d, hw]
      refine next_L hj' () (SExt.refl _) rfl ?_ trivial
      rw [hd]
      exact (by (try simp only [TabLe_cons, TabLe_nil, tab_cons, tab_nil, upd_apply, Nat.reduceEqDiff, reduceIte, and_true]); repeat' (first | exact trivial | exact A.le_refl _ | exact le_strip_no _ _ _ | exact A.le_no _ _ _ | exact A.le_empty _ _ _ | refine And.intro ?_ ?_))
  · have hje : j = l.length := by have := of_decide_eq_false hge; omega
    subst hje
    rw [List.take_length]
    have hle := dropsF_le l
    have hw2 : IntKind.i64.wrap (2 * ((dropsF l : Nat) : Int)) = ((2 * dropsF l : Nat) : Int) := wrap64 (by omega) (by omega)
    simp only [sZ, initT, optI, splice, reduceIte, reduceCtorEq, Nat.reduceEqDiff, Nat.reduceAdd, Nat.reduceSub, Nat.reduceMul, Nat.reduceLeDiff, Nat.reduceLT, Int.reduceLT, Int.reduceLE, Int.reduceToNat, Int.reduceEq, Int.cast_ofNat_Int, hw2]
    refine OutQ.eq (by repeat (first | exact SExt.refl _ | (refine SExt.old ?_ (by first | (simp only [*]; done) | (simp only [upd_none]; assumption) | (simp only [upd_none, *, not_false_eq_true, and_self]; done)) _))) ?_
    congr 1
    exact decide_eq_decide.2 (by omega)
end Go.Pv
