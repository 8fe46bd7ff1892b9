/- Distances, and the value of a key. -/
import Derived.Test.YtgmdhegbkbeihaaGreatZEvJ
import Derived.Test.YtgmdhegbkbeihaaGreatZLawA
set_option linter.unusedVariables false
set_option linter.unusedSimpArgs false
set_option maxRecDepth 4000
set_option maxHeartbeats 2000000
namespace Go.Pv
open Go

def encPt (p : Int × Int) : List A := [.int .i64 p.1, .int .i64 p.2]
def nearP (p : Int × Int) : Bool := !(decide (2097152 < max p.1 p.2) || decide (min p.1 p.2 < -2097152))
theorem get_pt (p : Int × Int) : encPt p = [.int .i64 p.1, .int .i64 p.2] := rfl
theorem spec_near (l : List (Int × Int)) (hl : l.length < 4611686018427387904) {s : Nat → Option Blk} {k : Nat → Tk} : Spec prg 104 [.sl 2 (l.map encPt) .no] s k (.bool (l.all nearP)) s k := by
  refine spec_tr prg_mixed tr_geom_near (Nat.le_of_ble_eq_true rfl) rfl ?_
  unfold pc_geom_near rs_geom_near
  simp only [sZ, initT, optI, splice, reduceIte, reduceCtorEq, Nat.reduceEqDiff, Nat.reduceAdd, Nat.reduceSub, Nat.reduceMul, Nat.reduceLeDiff, Nat.reduceLT, Int.reduceLT, Int.reduceLE, Int.reduceToNat, Int.reduceEq, Int.cast_ofNat_Int]
  refine loop_L (α := Unit) l.length (fun j _ => [(5, .sl 2 (l.map encPt) .no), (6, .int .i64 l.length), (7, .int .i64 j)]) (fun j _ => s) (fun _ _ => k) (fun j _ => (l.take j).all nearP = true) () (SExt.refl _) rfl (by (try simp only [TabLe_cons, TabLe_nil, tab_cons, tab_nil, upd_apply, Nat.reduceEqDiff, reduceIte, and_true]); repeat' (first | exact trivial | exact A.le_refl _ | exact le_strip_no _ _ _ | exact A.le_no _ _ _ | exact A.le_empty _ _ _ | refine And.intro ?_ ?_)) rfl ?_
  rintro j ⟨⟩ hj hall
  try dsimp only
  simp only [sZ, initT, optI, splice, reduceIte, reduceCtorEq, Nat.reduceEqDiff, Nat.reduceAdd, Nat.reduceSub, Nat.reduceMul, Nat.reduceLeDiff, Nat.reduceLT, Int.reduceLT, Int.reduceLE, Int.reduceToNat, Int.reduceEq, Int.cast_ofNat_Int]
  refine brC_in (fun hlt => ?_) (fun hge => ?_)
  · have hj' : j < l.length := by have := of_decide_eq_true hlt; omega
    clear hlt
    have hw := wrap_succ hj' (by omega)
    have hg : (l.map encPt)[j]? = some (encPt l[j]) := by simp [hj']
    have hn := all_take nearP l hj'
    have hp : nearP l[j] = !(decide (2097152 < max l[j].1 l[j].2) || decide (min l[j].1 l[j].2 < -2097152)) := rfl
    rw [hall, Bool.true_and, hp] at hn
    have hno : nearP l[j] = false → l.all nearP = false := by
      intro h
      rw [List.all_eq_false]
      exact ⟨l[j], List.getElem_mem hj', by rw [h]; simp⟩
    rw [hp] at hno
    simp only [sZ, initT, optI, splice, reduceIte, reduceCtorEq, Nat.reduceEqDiff, Nat.reduceAdd, Nat.reduceSub, Nat.reduceMul, Nat.reduceLeDiff, Nat.reduceLT, Int.reduceLT, Int.reduceLE, Int.reduceToNat, Int.reduceEq, Int.cast_ofNat_Int, hg, get_pt]
    (with_reducible refine newS_in ?_); intro b4 f4; simp only [upd_none] at f4
    repeat' (first | (first | (with_reducible refine newS_in ?_; intro _ hid_; simp only [upd_none] at hid_) | (with_reducible refine newR_in ?_; intro _ hid_ hih_; simp only [upd_none, upd_none', rr_eqs2, and_true] at hid_ hih_) | (with_reducible refine mkmS_in ?_; intro _ hid_; simp only [upd_none] at hid_)) | (with_reducible refine brC_in (fun h_ => ?_) (fun h_ => ?_)) | (with_reducible refine brG_in (fun h_ => ?_) (fun h_ => ?_)) | (with_reducible refine brN_in (fun h_ => ?_) (fun h_ => ?_)) | simp only [sZ, initT, optI, splice, reduceIte, reduceCtorEq, Nat.reduceEqDiff, Nat.reduceAdd, Nat.reduceSub, Nat.reduceMul, Nat.reduceLeDiff, Nat.reduceLT, Int.reduceLT, Int.reduceLE, Int.reduceToNat, Int.reduceEq, Int.cast_ofNat_Int, *, hw, f4, -hn, -hno, -hp])
    all_goals first
      | (refine next_L hj' () (by repeat (first | exact SExt.refl _ | (refine SExt.old ?_ (by first | (simp only [*]; done) | (simp only [upd_none]; assumption) | (simp only [upd_none, *, not_false_eq_true, and_self]; done)) _))) rfl (by (try simp only [TabLe_cons, TabLe_nil, tab_cons, tab_nil, upd_apply, Nat.reduceEqDiff, reduceIte, and_true]); repeat' (first | exact trivial | exact A.le_refl _ | exact le_strip_no _ _ _ | exact A.le_no _ _ _ | exact A.le_empty _ _ _ | refine And.intro ?_ ?_)) ?_; rw [hn]; clear hn hno hp hg; simp_all only [Bool.not_eq_true', Bool.not_eq_false', Bool.not_not, Bool.not_true, Bool.not_false, Bool.and_true, Bool.true_and, Bool.and_false, Bool.false_and, Bool.or_true, Bool.true_or, Bool.or_false, Bool.false_or]; done)
      | (refine OutQ.eq (by repeat (first | exact SExt.refl _ | (refine SExt.old ?_ (by first | (simp only [*]; done) | (simp only [upd_none]; assumption) | (simp only [upd_none, *, not_false_eq_true, and_self]; done)) _))) ?_
         rw [hno (by clear hn hno hp hg; simp_all only [Bool.not_eq_true', Bool.not_eq_false', Bool.not_not, Bool.not_true, Bool.not_false, Bool.and_true, Bool.true_and, Bool.and_false, Bool.false_and, Bool.or_true, Bool.true_or, Bool.or_false, Bool.false_or])])
  · have hje : j = l.length := by have := of_decide_eq_false hge; omega
    subst hje
    rw [List.take_length] at hall
    simp only [sZ, initT, optI, splice, reduceIte, reduceCtorEq, Nat.reduceEqDiff, Nat.reduceAdd, Nat.reduceSub, Nat.reduceMul, Nat.reduceLeDiff, Nat.reduceLT, Int.reduceLT, Int.reduceLE, Int.reduceToNat, Int.reduceEq, Int.cast_ofNat_Int]
    refine OutQ.eq (by repeat (first | exact SExt.refl _ | (refine SExt.old ?_ (by first | (simp only [*]; done) | (simp only [upd_none]; assumption) | (simp only [upd_none, *, not_false_eq_true, and_self]; done)) _))) ?_
    rw [hall]
theorem sq_bound {d : Int} (h1 : -4194304 ≤ d) (h2 : d ≤ 4194304) : 0 ≤ d * d ∧ d * d ≤ 17592186044416 := by
  have h : (d.natAbs * d.natAbs : Nat) ≤ 4194304 * 4194304 := Nat.mul_le_mul (by omega) (by omega)
  have e : ((d.natAbs * d.natAbs : Nat) : Int) = d * d := Int.natAbs_mul_self
  omega
def distF (x1 y1 x2 y2 : Int) : Int := cond ([(x1, y1), (x2, y2)].all nearP) ((x2 - x1) * (x2 - x1) + (y2 - y1) * (y2 - y1)) 0
theorem spec_to (x1 y1 x2 y2 : Int) {s : Nat → Option Blk} {k : Nat → Tk} : Spec prg 105 [.agg [.int .i64 x1, .int .i64 y1], .agg [.int .i64 x2, .int .i64 y2]] s k (.agg [.int .i64 (IntKind.i64.wrap (x2 - x1)), .int .i64 (IntKind.i64.wrap (y2 - y1))]) s k := by
  refine spec_tr prg_mixed tr_geom_to (Nat.le_of_ble_eq_true rfl) rfl ?_
  unfold pc_geom_to rs_geom_to
  repeat' (first | (first | (with_reducible refine newS_in ?_; intro _ hid_; simp only [upd_none] at hid_) | (with_reducible refine newR_in ?_; intro _ hid_ hih_; simp only [upd_none, upd_none', rr_eqs2, and_true] at hid_ hih_) | (with_reducible refine mkmS_in ?_; intro _ hid_; simp only [upd_none] at hid_)) | (with_reducible refine brC_in (fun h_ => ?_) (fun h_ => ?_)) | (with_reducible refine brG_in (fun h_ => ?_) (fun h_ => ?_)) | (with_reducible refine brN_in (fun h_ => ?_) (fun h_ => ?_)) | simp only [sZ, initT, optI, splice, reduceIte, reduceCtorEq, Nat.reduceEqDiff, Nat.reduceAdd, Nat.reduceSub, Nat.reduceMul, Nat.reduceLeDiff, Nat.reduceLT, Int.reduceLT, Int.reduceLE, Int.reduceToNat, Int.reduceEq, Int.cast_ofNat_Int, *])
  all_goals refine OutQ.eq (by repeat (first | exact SExt.refl _ | (refine SExt.old ?_ (by first | (simp only [*]; done) | (simp only [upd_none]; assumption) | (simp only [upd_none, *, not_false_eq_true, and_self]; done)) _))) rfl
theorem spec_dot (x1 y1 x2 y2 : Int) {s : Nat → Option Blk} {k : Nat → Tk} : Spec prg 106 [.agg [.int .i64 x1, .int .i64 y1], .agg [.int .i64 x2, .int .i64 y2]] s k (.int .i64 (IntKind.i64.wrap (IntKind.i64.wrap (x1 * x2) + IntKind.i64.wrap (y1 * y2)))) s k := by
  refine spec_tr prg_mixed tr_geom_vector_dot (Nat.le_of_ble_eq_true rfl) rfl ?_
  unfold pc_geom_vector_dot rs_geom_vector_dot
  repeat' (first | (first | (with_reducible refine newS_in ?_; intro _ hid_; simp only [upd_none] at hid_) | (with_reducible refine newR_in ?_; intro _ hid_ hih_; simp only [upd_none, upd_none', rr_eqs2, and_true] at hid_ hih_) | (with_reducible refine mkmS_in ?_; intro _ hid_; simp only [upd_none] at hid_)) | (with_reducible refine brC_in (fun h_ => ?_) (fun h_ => ?_)) | (with_reducible refine brG_in (fun h_ => ?_) (fun h_ => ?_)) | (with_reducible refine brN_in (fun h_ => ?_) (fun h_ => ?_)) | simp only [sZ, initT, optI, splice, reduceIte, reduceCtorEq, Nat.reduceEqDiff, Nat.reduceAdd, Nat.reduceSub, Nat.reduceMul, Nat.reduceLeDiff, Nat.reduceLT, Int.reduceLT, Int.reduceLE, Int.reduceToNat, Int.reduceEq, Int.cast_ofNat_Int, *])
  all_goals refine OutQ.eq (by repeat (first | exact SExt.refl _ | (refine SExt.old ?_ (by first | (simp only [*]; done) | (simp only [upd_none]; assumption) | (simp only [upd_none, *, not_false_eq_true, and_self]; done)) _))) rfl
theorem spec_dist (x1 y1 x2 y2 : Int) {s : Nat → Option Blk} {k : Nat → Tk} : Spec prg 65 [.agg [.int .i64 x1, .int .i64 y1], .agg [.int .i64 x2, .int .i64 y2]] s k (.int .i64 (distF x1 y1 x2 y2)) s k := by
  refine spec_tr prg_mixed tr_geom_Distance (Nat.le_of_ble_eq_true rfl) rfl ?_
  unfold pc_geom_Distance rs_geom_Distance
  have hne : ∀ (t : Tok) s k, Spec prg 104 [.sl 2 [[.int .i64 x1, .int .i64 y1], [.int .i64 x2, .int .i64 y2]] t] s k (.bool ([(x1, y1), (x2, y2)].all nearP)) s k := by
    intro t s k
    exact Spec.args (@spec_near [(x1, y1), (x2, y2)] (by simp) s k) (.cons (A.le_no _ _ _) .nil)
  simp only [sZ, initT, optI, splice, reduceIte, reduceCtorEq, Nat.reduceEqDiff, Nat.reduceAdd, Nat.reduceSub, Nat.reduceMul, Nat.reduceLeDiff, Nat.reduceLT, Int.reduceLT, Int.reduceLE, Int.reduceToNat, Int.reduceEq, Int.cast_ofNat_Int]
  (with_reducible refine newS_in ?_); intro b2 f2; simp only [upd_none] at f2
  simp only [sZ, initT, optI, splice, reduceIte, reduceCtorEq, Nat.reduceEqDiff, Nat.reduceAdd, Nat.reduceSub, Nat.reduceMul, Nat.reduceLeDiff, Nat.reduceLT, Int.reduceLT, Int.reduceLE, Int.reduceToNat, Int.reduceEq, Int.cast_ofNat_Int]
  (with_reducible refine newS_in ?_); intro b3 f3; simp only [upd_none] at f3
  simp only [sZ, initT, optI, splice, reduceIte, reduceCtorEq, Nat.reduceEqDiff, Nat.reduceAdd, Nat.reduceSub, Nat.reduceMul, Nat.reduceLeDiff, Nat.reduceLT, Int.reduceLT, Int.reduceLE, Int.reduceToNat, Int.reduceEq, Int.cast_ofNat_Int, f2, f3]
  refine callS_quiet (hne _ _ _) ?_
  cases hN : [(x1, y1), (x2, y2)].all nearP
  · have hd : distF x1 y1 x2 y2 = 0 := by unfold distF; rw [hN]; rfl
    rw [hd]
    simp only [sZ, initT, optI, splice, reduceIte, reduceCtorEq, Nat.reduceEqDiff, Nat.reduceAdd, Nat.reduceSub, Nat.reduceMul, Nat.reduceLeDiff, Nat.reduceLT, Int.reduceLT, Int.reduceLE, Int.reduceToNat, Int.reduceEq, Int.cast_ofNat_Int, f2, f3, Bool.not_false]
    refine OutQ.eq (by repeat (first | exact SExt.refl _ | (refine SExt.old ?_ (by first | (simp only [*]; done) | (simp only [upd_none]; assumption) | (simp only [upd_none, *, not_false_eq_true, and_self]; done)) _))) rfl
  · have hd : distF x1 y1 x2 y2 = (x2 - x1) * (x2 - x1) + (y2 - y1) * (y2 - y1) := by unfold distF; rw [hN]; rfl
    rw [hd]
    simp only [sZ, initT, optI, splice, reduceIte, reduceCtorEq, Nat.reduceEqDiff, Nat.reduceAdd, Nat.reduceSub, Nat.reduceMul, Nat.reduceLeDiff, Nat.reduceLT, Int.reduceLT, Int.reduceLE, Int.reduceToNat, Int.reduceEq, Int.cast_ofNat_Int, f2, f3, Bool.not_true]
    refine callS_quiet (spec_to _ _ _ _) ?_
    simp only [sZ, initT, optI, splice, reduceIte, reduceCtorEq, Nat.reduceEqDiff, Nat.reduceAdd, Nat.reduceSub, Nat.reduceMul, Nat.reduceLeDiff, Nat.reduceLT, Int.reduceLT, Int.reduceLE, Int.reduceToNat, Int.reduceEq, Int.cast_ofNat_Int, f2, f3]
    (with_reducible refine newS_in ?_); intro b5 f5; simp only [upd_none] at f5
    simp only [sZ, initT, optI, splice, reduceIte, reduceCtorEq, Nat.reduceEqDiff, Nat.reduceAdd, Nat.reduceSub, Nat.reduceMul, Nat.reduceLeDiff, Nat.reduceLT, Int.reduceLT, Int.reduceLE, Int.reduceToNat, Int.reduceEq, Int.cast_ofNat_Int, f2, f3, f5]
    refine callS_quiet (spec_dot _ _ _ _) ?_
    simp only [sZ, initT, optI, splice, reduceIte, reduceCtorEq, Nat.reduceEqDiff, Nat.reduceAdd, Nat.reduceSub, Nat.reduceMul, Nat.reduceLeDiff, Nat.reduceLT, Int.reduceLT, Int.reduceLE, Int.reduceToNat, Int.reduceEq, Int.cast_ofNat_Int, f2, f3, f5]
    refine OutQ.eq (by repeat (first | exact SExt.refl _ | (refine SExt.old ?_ (by first | (simp only [*]; done) | (simp only [upd_none]; assumption) | (simp only [upd_none, *, not_false_eq_true, and_self]; done)) _))) ?_
    simp only [List.all_cons, List.all_nil, Bool.and_true, nearP, Bool.and_eq_true, Bool.not_eq_true', Bool.or_eq_false_iff, decide_eq_false_iff_not] at hN
    obtain ⟨⟨a1, a2⟩, a3, a4⟩ := hN
    have w1 : IntKind.i64.wrap (x2 - x1) = x2 - x1 := wrap64 (by omega) (by omega)
    have w2 : IntKind.i64.wrap (y2 - y1) = y2 - y1 := wrap64 (by omega) (by omega)
    have q1 := @sq_bound (x2 - x1) (by omega) (by omega)
    have q2 := @sq_bound (y2 - y1) (by omega) (by omega)
    have w3 : IntKind.i64.wrap ((x2 - x1) * (x2 - x1)) = (x2 - x1) * (x2 - x1) := wrap64 (by omega) (by omega)
    have w4 : IntKind.i64.wrap ((y2 - y1) * (y2 - y1)) = (y2 - y1) * (y2 - y1) := wrap64 (by omega) (by omega)
    rw [w1, w2, w3, w4, wrap64 (by omega) (by omega)]
def tagG (l : List Tag) (key : ByteArray) : ByteArray × Bool := match l.find? (fun t => decide (t.key = key)) with
  | some t => (t.val, true)
  | none => (⟨#[]⟩, false)
theorem spec_get (l : List Tag) (key : ByteArray) (hl : l.length < 4611686018427387904) {s : Nat → Option Blk} {k : Nat → Tk} : Spec prg 63 [.sl 2 (l.map encTag) .no, .str key] s k (.tup [.str (tagG l key).1, .bool (tagG l key).2]) s k := by
  refine spec_tr prg_mixed tr_tag_Get (Nat.le_of_ble_eq_true rfl) rfl ?_
  unfold pc_tag_Get rs_tag_Get
  simp only [sZ, initT, optI, splice, reduceIte, reduceCtorEq, Nat.reduceEqDiff, Nat.reduceAdd, Nat.reduceSub, Nat.reduceMul, Nat.reduceLeDiff, Nat.reduceLT, Int.reduceLT, Int.reduceLE, Int.reduceToNat, Int.reduceEq, Int.cast_ofNat_Int]
  refine loop_L (α := Unit) l.length (fun j _ => [(1, .str key), (8, .sl 2 (l.map encTag) .no), (9, .int .i64 l.length), (10, .int .i64 j)]) (fun j _ => s) (fun _ _ => k) (fun j _ => ∀ i (h : i < l.length), i < j → decide (l[i].key = key) = false) () (SExt.refl _) rfl (by (try simp only [TabLe_cons, TabLe_nil, tab_cons, tab_nil, upd_apply, Nat.reduceEqDiff, reduceIte, and_true]); repeat' (first | exact trivial | exact A.le_refl _ | exact le_strip_no _ _ _ | exact A.le_no _ _ _ | exact A.le_empty _ _ _ | refine And.intro ?_ ?_)) (fun i _ h => by omega) ?_
  rintro j ⟨⟩ hj hall
  try dsimp only
  simp only [sZ, initT, optI, splice, reduceIte, reduceCtorEq, Nat.reduceEqDiff, Nat.reduceAdd, Nat.reduceSub, Nat.reduceMul, Nat.reduceLeDiff, Nat.reduceLT, Int.reduceLT, Int.reduceLE, Int.reduceToNat, Int.reduceEq, Int.cast_ofNat_Int]
  refine brC_in (fun hlt => ?_) (fun hge => ?_)
  · have hj' : j < l.length := by have := of_decide_eq_true hlt; omega
    clear hlt
    have hw := wrap_succ hj' (by omega)
    have hg : (l.map encTag)[j]? = some (encTag l[j]) := tagE.get hj'
    simp only [sZ, initT, optI, splice, reduceIte, reduceCtorEq, Nat.reduceEqDiff, Nat.reduceAdd, Nat.reduceSub, Nat.reduceMul, Nat.reduceLeDiff, Nat.reduceLT, Int.reduceLT, Int.reduceLE, Int.reduceToNat, Int.reduceEq, Int.cast_ofNat_Int, hg, encTag]
    (with_reducible refine newS_in ?_); intro b7 f7; simp only [upd_none] at f7
    simp only [sZ, initT, optI, splice, reduceIte, reduceCtorEq, Nat.reduceEqDiff, Nat.reduceAdd, Nat.reduceSub, Nat.reduceMul, Nat.reduceLeDiff, Nat.reduceLT, Int.reduceLT, Int.reduceLE, Int.reduceToNat, Int.reduceEq, Int.cast_ofNat_Int, f7]
    refine brC_in (fun h1 => ?_) (fun h1 => ?_)
    · simp only [sZ, initT, optI, splice, reduceIte, reduceCtorEq, Nat.reduceEqDiff, Nat.reduceAdd, Nat.reduceSub, Nat.reduceMul, Nat.reduceLeDiff, Nat.reduceLT, Int.reduceLT, Int.reduceLE, Int.reduceToNat, Int.reduceEq, Int.cast_ofNat_Int, f7]
      have hfd : l.find? (fun t => decide (t.key = key)) = some l[j] := by
        rw [List.find?_eq_some_iff_getElem]
        exact ⟨h1, j, hj', rfl, fun i hi => by rw [hall i (by omega) hi]; rfl⟩
      have hG : tagG l key = (l[j].val, true) := by unfold tagG; rw [hfd]
      rw [hG]
      refine OutQ.eq (by repeat (first | exact SExt.refl _ | (refine SExt.old ?_ (by first | (simp only [*]; done) | (simp only [upd_none]; assumption) | (simp only [upd_none, *, not_false_eq_true, and_self]; done)) _))) rfl
    · simp only [sZ, initT, optI, splice, reduceIte, reduceCtorEq, Nat.reduceEqDiff, Nat.reduceAdd, Nat.reduceSub, Nat.reduceMul, Nat.reduceLeDiff, Nat.reduceLT, Int.reduceLT, Int.reduceLE, Int.reduceToNat, Int.reduceEq, Int.cast_ofNat_Int, hw]
      refine next_L hj' () (by repeat (first | exact SExt.refl _ | (refine SExt.old ?_ (by first | (simp only [*]; done) | (simp only [upd_none]; assumption) | (simp only [upd_none, *, not_false_eq_true, and_self]; done)) _))) rfl (by (try simp only [TabLe_cons, TabLe_nil, tab_cons, tab_nil, upd_apply, Nat.reduceEqDiff, reduceIte, and_true]); repeat' (first | exact trivial | exact A.le_refl _ | exact le_strip_no _ _ _ | exact A.le_no _ _ _ | exact A.le_empty _ _ _ | refine And.intro ?_ ?_)) fun i hi h3 => ?_
      by_cases hij : i = j
      · subst hij; exact h1
      · exact hall i hi (by omega)
  · have hje : j = l.length := by have := of_decide_eq_false hge; omega
    subst hje
    have hfd : l.find? (fun t => decide (t.key = key)) = none := by
      rw [List.find?_eq_none]
      intro t ht
      obtain ⟨i, hi, rfl⟩ := List.getElem_of_mem ht
      rw [hall i hi hi]
      simp
    have hG : tagG l key = (⟨#[]⟩, false) := by unfold tagG; rw [hfd]
    rw [hG]
    simp only [sZ, initT, optI, splice, reduceIte, reduceCtorEq, Nat.reduceEqDiff, Nat.reduceAdd, Nat.reduceSub, Nat.reduceMul, Nat.reduceLeDiff, Nat.reduceLT, Int.reduceLT, Int.reduceLE, Int.reduceToNat, Int.reduceEq, Int.cast_ofNat_Int]
    refine OutQ.eq (by repeat (first | exact SExt.refl _ | (refine SExt.old ?_ (by first | (simp only [*]; done) | (simp only [upd_none]; assumption) | (simp only [upd_none, *, not_false_eq_true, and_self]; done)) _))) rfl
theorem spec_old (l : List Obj) (i : ByteArray) {s : Nat → Option Blk} {k : Nat → Tk} (hl : l.length < 4611686018427387904) {mb : Nat} (hm : s mb = some (.cells [.sl 6 (l.map encObj) .no])) :
    Spec prg 58 [.str i, .ptr mb 0] s k (.tup [.agg (encObj (objF l i).1), .bool (objF l i).2]) s k := by
  refine spec_tr prg_mixed tr_evidence_suspicions_1 (Nat.le_of_ble_eq_true rfl) rfl ?_
  unfold pc_evidence_suspicions_1 rs_evidence_suspicions_1
  have hf := fun s k => @spec_find l i hl s k
  simp only [encMap] at hf
  simp only [sZ, initT, optI, splice, reduceIte, reduceCtorEq, Nat.reduceEqDiff, Nat.reduceAdd, Nat.reduceSub, Nat.reduceMul, Nat.reduceLeDiff, Nat.reduceLT, Int.reduceLT, Int.reduceLE, Int.reduceToNat, Int.reduceEq, Int.cast_ofNat_Int]
  (with_reducible refine newS_in ?_); intro b3 f3; simp only [upd_none] at f3
  have n1 : ¬ mb = b3 := fun e => by subst e; rw [hm] at f3; cases f3
  simp only [sZ, initT, optI, splice, reduceIte, reduceCtorEq, Nat.reduceEqDiff, Nat.reduceAdd, Nat.reduceSub, Nat.reduceMul, Nat.reduceLeDiff, Nat.reduceLT, Int.reduceLT, Int.reduceLE, Int.reduceToNat, Int.reduceEq, Int.cast_ofNat_Int, n1, f3, hm]
  refine callS_quiet (hf _ _) ?_
  unfold findI
  rcases idxOf_cases (fun o : Obj => decide (o.id = i)) l with ⟨h1, h2⟩ | ⟨j, hj, h1, h2⟩
  · have hF : objF l i = (zeroObj, false) := by rw [objF, h2]
    rw [h1, hF]
    simp only [sZ, initT, optI, splice, reduceIte, reduceCtorEq, Nat.reduceEqDiff, Nat.reduceAdd, Nat.reduceSub, Nat.reduceMul, Nat.reduceLeDiff, Nat.reduceLT, Int.reduceLT, Int.reduceLE, Int.reduceToNat, Int.reduceEq, Int.cast_ofNat_Int, n1, f3, hm]
    exact OutQ.le (by repeat (first | exact SExt.refl _ | (refine SExt.old ?_ (by first | (simp only [*]; done) | (simp only [upd_none]; assumption) | (simp only [upd_none, *, not_false_eq_true, and_self]; done)) _))) (A.le_tup (.cons le_zero (.cons (A.le_refl _) .nil)))
  · have hg : (l.map encObj)[j]? = some (encObj l[j]) := objE.get hj
    have h3 : decide ((j : Int) < 0) = false := by simp
    have hF : objF l i = (l[j], true) := by rw [objF, h2]
    have h4 : (0 : Int) ≤ j := by omega
    have h5 : (j : Int) < l.length := by omega
    rw [h1, hF]
    simp only [sZ, initT, optI, splice, reduceIte, reduceCtorEq, Nat.reduceEqDiff, Nat.reduceAdd, Nat.reduceSub, Nat.reduceMul, Nat.reduceLeDiff, Nat.reduceLT, Int.reduceLT, Int.reduceLE, Int.reduceToNat, Int.reduceEq, Int.cast_ofNat_Int, n1, f3, hm, h3, h4, h5, hg, len_encObj, wh_encObj, st_encObj]
    refine OutQ.eq (by repeat (first | exact SExt.refl _ | (refine SExt.old ?_ (by first | (simp only [*]; done) | (simp only [upd_none]; assumption) | (simp only [upd_none, *, not_false_eq_true, and_self]; done)) _))) rfl
def showE (m : List Obj) (kind : Int) (e : Edit) : Bool :=
  if kind = 1 then decide (e.op = 5) && (objF m e.id).2
  else if kind = 2 then decide (e.op = 3) && (decide (e.key = ⟨#[110, 97, 109, 101]⟩) && (decide (e.val = ⟨#[]⟩) && (tagG (objF m e.id).1.tags ⟨#[110, 97, 109, 101]⟩).2))
  else if kind = 3 then decide (e.op = 2) && ((objF m e.id).2 && (decide ((objF m e.id).1.kind = 1) && decide (1000000 ≤ distF (objF m e.id).1.x (objF m e.id).1.y e.x e.y)))
  else decide (e.op = 1) && decide (e.obj.kind = 1)
theorem spec_shows1 (m : List Obj) (e : Edit) {s : Nat → Option Blk} {k : Nat → Tk} (hl : m.length < 4611686018427387904) {mb ob : Nat} (hm : s mb = some (.cells [.sl 6 (m.map encObj) .no])) (ho : s ob = some (.cells [.fn 58 [.ptr mb 0]])) :
    Spec prg 60 [.agg (encEdit e), .ptr ob 0] s k (.bool (showE m 1 e)) s k := by
  refine spec_tr prg_mixed tr_evidence_suspicions_2 (Nat.le_of_ble_eq_true rfl) rfl ?_
  unfold pc_evidence_suspicions_2 rs_evidence_suspicions_2
  have hF : showE m 1 e = (decide (e.op = 5) && (objF m e.id).2) := rfl
  simp only [sZ, initT, optI, splice, reduceIte, reduceCtorEq, Nat.reduceEqDiff, Nat.reduceAdd, Nat.reduceSub, Nat.reduceMul, Nat.reduceLeDiff, Nat.reduceLT, Int.reduceLT, Int.reduceLE, Int.reduceToNat, Int.reduceEq, Int.cast_ofNat_Int, encEdit]
  (with_reducible refine newS_in ?_); intro b2 f2; simp only [upd_none] at f2
  have n1 : ¬ mb = b2 := fun e => by subst e; rw [hm] at f2; cases f2
  have n2 : ¬ ob = b2 := fun e => by subst e; rw [ho] at f2; cases f2
  simp only [sZ, initT, optI, splice, reduceIte, reduceCtorEq, Nat.reduceEqDiff, Nat.reduceAdd, Nat.reduceSub, Nat.reduceMul, Nat.reduceLeDiff, Nat.reduceLT, Int.reduceLT, Int.reduceLE, Int.reduceToNat, Int.reduceEq, Int.cast_ofNat_Int, n1, n2, f2, ho]
  refine callS_quiet (spec_old m e.id hl (mb := mb) (by simp only [upd_apply, n1, reduceIte, hm])) ?_
  generalize (objF m e.id) = o at *
  simp only [sZ, initT, optI, splice, reduceIte, reduceCtorEq, Nat.reduceEqDiff, Nat.reduceAdd, Nat.reduceSub, Nat.reduceMul, Nat.reduceLeDiff, Nat.reduceLT, Int.reduceLT, Int.reduceLE, Int.reduceToNat, Int.reduceEq, Int.cast_ofNat_Int, n1, n2, f2, ho, encObj]
  (with_reducible refine newS_in ?_); intro b4 f4; simp only [upd_none] at f4
  repeat' (first | (first | (with_reducible refine newS_in ?_; intro _ hid_; simp only [upd_none] at hid_) | (with_reducible refine newR_in ?_; intro _ hid_ hih_; simp only [upd_none, upd_none', rr_eqs2, and_true] at hid_ hih_) | (with_reducible refine mkmS_in ?_; intro _ hid_; simp only [upd_none] at hid_)) | (with_reducible refine brC_in (fun h_ => ?_) (fun h_ => ?_)) | (with_reducible refine brG_in (fun h_ => ?_) (fun h_ => ?_)) | (with_reducible refine brN_in (fun h_ => ?_) (fun h_ => ?_)) | simp only [sZ, initT, optI, splice, reduceIte, reduceCtorEq, Nat.reduceEqDiff, Nat.reduceAdd, Nat.reduceSub, Nat.reduceMul, Nat.reduceLeDiff, Nat.reduceLT, Int.reduceLT, Int.reduceLE, Int.reduceToNat, Int.reduceEq, Int.cast_ofNat_Int, *, -hF, -hm, -ho])
  all_goals refine OutQ.eq (by repeat (first | exact SExt.refl _ | (refine SExt.old ?_ (by first | (simp only [*]; done) | (simp only [upd_none]; assumption) | (simp only [upd_none, *, not_false_eq_true, and_self]; done)) _))) ?_
  all_goals rw [hF]
  all_goals clear hF hm ho
  all_goals simp_all only [Bool.not_eq_true', Bool.not_eq_false', Bool.not_not, Bool.not_true, Bool.not_false, Bool.and_true, Bool.true_and, Bool.and_false, Bool.false_and, Bool.or_true, Bool.true_or, Bool.or_false, Bool.false_or]
theorem spec_shows2 (m : List Obj) (e : Edit) {s : Nat → Option Blk} {k : Nat → Tk} (hl : m.length < 4611686018427387904) (ht : (objF m e.id).1.tags.length < 4611686018427387904) {mb ob : Nat} (hm : s mb = some (.cells [.sl 6 (m.map encObj) .no])) (ho : s ob = some (.cells [.fn 58 [.ptr mb 0]])) :
    Spec prg 62 [.agg (encEdit e), .ptr ob 0] s k (.bool (showE m 2 e)) s k := by
  refine spec_tr prg_mixed tr_evidence_suspicions_3 (Nat.le_of_ble_eq_true rfl) rfl ?_
  unfold pc_evidence_suspicions_3 rs_evidence_suspicions_3
  have hF : showE m 2 e = (decide (e.op = 3) && (decide (e.key = ⟨#[110, 97, 109, 101]⟩) && (decide (e.val = ⟨#[]⟩) && (tagG (objF m e.id).1.tags ⟨#[110, 97, 109, 101]⟩).2))) := rfl
  simp only [sZ, initT, optI, splice, reduceIte, reduceCtorEq, Nat.reduceEqDiff, Nat.reduceAdd, Nat.reduceSub, Nat.reduceMul, Nat.reduceLeDiff, Nat.reduceLT, Int.reduceLT, Int.reduceLE, Int.reduceToNat, Int.reduceEq, Int.cast_ofNat_Int, encEdit]
  (with_reducible refine newS_in ?_); intro b2 f2; simp only [upd_none] at f2
  have n1 : ¬ mb = b2 := fun e => by subst e; rw [hm] at f2; cases f2
  have n2 : ¬ ob = b2 := fun e => by subst e; rw [ho] at f2; cases f2
  simp only [sZ, initT, optI, splice, reduceIte, reduceCtorEq, Nat.reduceEqDiff, Nat.reduceAdd, Nat.reduceSub, Nat.reduceMul, Nat.reduceLeDiff, Nat.reduceLT, Int.reduceLT, Int.reduceLE, Int.reduceToNat, Int.reduceEq, Int.cast_ofNat_Int, n1, n2, f2, ho]
  refine callS_quiet (spec_old m e.id hl (mb := mb) (by simp only [upd_apply, n1, reduceIte, hm])) ?_
  generalize (objF m e.id) = o at *
  simp only [sZ, initT, optI, splice, reduceIte, reduceCtorEq, Nat.reduceEqDiff, Nat.reduceAdd, Nat.reduceSub, Nat.reduceMul, Nat.reduceLeDiff, Nat.reduceLT, Int.reduceLT, Int.reduceLE, Int.reduceToNat, Int.reduceEq, Int.cast_ofNat_Int, n1, n2, f2, ho, encObj]
  (with_reducible refine newS_in ?_); intro b4 f4; simp only [upd_none] at f4
  repeat' (first | (refine callS_quiet (spec_get _ _ ht) ?_) | (first | (with_reducible refine newS_in ?_; intro _ hid_; simp only [upd_none] at hid_) | (with_reducible refine newR_in ?_; intro _ hid_ hih_; simp only [upd_none, upd_none', rr_eqs2, and_true] at hid_ hih_) | (with_reducible refine mkmS_in ?_; intro _ hid_; simp only [upd_none] at hid_)) | (with_reducible refine brC_in (fun h_ => ?_) (fun h_ => ?_)) | (with_reducible refine brG_in (fun h_ => ?_) (fun h_ => ?_)) | (with_reducible refine brN_in (fun h_ => ?_) (fun h_ => ?_)) | simp only [sZ, initT, optI, splice, reduceIte, reduceCtorEq, Nat.reduceEqDiff, Nat.reduceAdd, Nat.reduceSub, Nat.reduceMul, Nat.reduceLeDiff, Nat.reduceLT, Int.reduceLT, Int.reduceLE, Int.reduceToNat, Int.reduceEq, Int.cast_ofNat_Int, *, -hF, -hm, -ho, -ht])
  all_goals refine OutQ.eq (by repeat (first | exact SExt.refl _ | (refine SExt.old ?_ (by first | (simp only [*]; done) | (simp only [upd_none]; assumption) | (simp only [upd_none, *, not_false_eq_true, and_self]; done)) _))) ?_
  all_goals rw [hF]
  all_goals clear hF hm ho ht
  all_goals simp_all only [Bool.not_eq_true', Bool.not_eq_false', Bool.not_not, Bool.not_true, Bool.not_false, Bool.and_true, Bool.true_and, Bool.and_false, Bool.false_and, Bool.or_true, Bool.true_or, Bool.or_false, Bool.false_or]
theorem spec_shows3 (m : List Obj) (e : Edit) {s : Nat → Option Blk} {k : Nat → Tk} (hl : m.length < 4611686018427387904) {mb ob : Nat} (hm : s mb = some (.cells [.sl 6 (m.map encObj) .no])) (ho : s ob = some (.cells [.fn 58 [.ptr mb 0]])) :
    Spec prg 64 [.agg (encEdit e), .ptr ob 0] s k (.bool (showE m 3 e)) s k := by
  refine spec_tr prg_mixed tr_evidence_suspicions_4 (Nat.le_of_ble_eq_true rfl) rfl ?_
  unfold pc_evidence_suspicions_4 rs_evidence_suspicions_4
  have hF : showE m 3 e = (decide (e.op = 2) && ((objF m e.id).2 && (decide ((objF m e.id).1.kind = 1) && decide (1000000 ≤ distF (objF m e.id).1.x (objF m e.id).1.y e.x e.y)))) := rfl
  simp only [sZ, initT, optI, splice, reduceIte, reduceCtorEq, Nat.reduceEqDiff, Nat.reduceAdd, Nat.reduceSub, Nat.reduceMul, Nat.reduceLeDiff, Nat.reduceLT, Int.reduceLT, Int.reduceLE, Int.reduceToNat, Int.reduceEq, Int.cast_ofNat_Int, encEdit]
  (with_reducible refine newS_in ?_); intro b2 f2; simp only [upd_none] at f2
  have n1 : ¬ mb = b2 := fun e => by subst e; rw [hm] at f2; cases f2
  have n2 : ¬ ob = b2 := fun e => by subst e; rw [ho] at f2; cases f2
  simp only [sZ, initT, optI, splice, reduceIte, reduceCtorEq, Nat.reduceEqDiff, Nat.reduceAdd, Nat.reduceSub, Nat.reduceMul, Nat.reduceLeDiff, Nat.reduceLT, Int.reduceLT, Int.reduceLE, Int.reduceToNat, Int.reduceEq, Int.cast_ofNat_Int, n1, n2, f2, ho]
  refine callS_quiet (spec_old m e.id hl (mb := mb) (by simp only [upd_apply, n1, reduceIte, hm])) ?_
  generalize (objF m e.id) = o at *
  simp only [sZ, initT, optI, splice, reduceIte, reduceCtorEq, Nat.reduceEqDiff, Nat.reduceAdd, Nat.reduceSub, Nat.reduceMul, Nat.reduceLeDiff, Nat.reduceLT, Int.reduceLT, Int.reduceLE, Int.reduceToNat, Int.reduceEq, Int.cast_ofNat_Int, n1, n2, f2, ho, encObj]
  (with_reducible refine newS_in ?_); intro b4 f4; simp only [upd_none] at f4
  repeat' (first | (refine callS_quiet (spec_dist _ _ _ _) ?_) | (first | (with_reducible refine newS_in ?_; intro _ hid_; simp only [upd_none] at hid_) | (with_reducible refine newR_in ?_; intro _ hid_ hih_; simp only [upd_none, upd_none', rr_eqs2, and_true] at hid_ hih_) | (with_reducible refine mkmS_in ?_; intro _ hid_; simp only [upd_none] at hid_)) | (with_reducible refine brC_in (fun h_ => ?_) (fun h_ => ?_)) | (with_reducible refine brG_in (fun h_ => ?_) (fun h_ => ?_)) | (with_reducible refine brN_in (fun h_ => ?_) (fun h_ => ?_)) | simp only [sZ, initT, optI, splice, reduceIte, reduceCtorEq, Nat.reduceEqDiff, Nat.reduceAdd, Nat.reduceSub, Nat.reduceMul, Nat.reduceLeDiff, Nat.reduceLT, Int.reduceLT, Int.reduceLE, Int.reduceToNat, Int.reduceEq, Int.cast_ofNat_Int, *, -hF, -hm, -ho])
  all_goals refine OutQ.eq (by repeat (first | exact SExt.refl _ | (refine SExt.old ?_ (by first | (simp only [*]; done) | (simp only [upd_none]; assumption) | (simp only [upd_none, *, not_false_eq_true, and_self]; done)) _))) ?_
  all_goals rw [hF]
  all_goals clear hF hm ho
  all_goals simp_all only [Bool.not_eq_true', Bool.not_eq_false', Bool.not_not, Bool.not_true, Bool.not_false, Bool.and_true, Bool.true_and, Bool.and_false, Bool.false_and, Bool.or_true, Bool.true_or, Bool.or_false, Bool.false_or]
theorem spec_shows4 (m : List Obj) (e : Edit) {s : Nat → Option Blk} {k : Nat → Tk} : Spec prg 66 [.agg (encEdit e)] s k (.bool (showE m 4 e)) s k := by
  refine spec_tr prg_mixed tr_evidence_suspicions_5 (Nat.le_of_ble_eq_true rfl) rfl ?_
  unfold pc_evidence_suspicions_5 rs_evidence_suspicions_5
  have hF : showE m 4 e = (decide (e.op = 1) && decide (e.obj.kind = 1)) := rfl
  repeat' (first | (first | (with_reducible refine newS_in ?_; intro _ hid_; simp only [upd_none] at hid_) | (with_reducible refine newR_in ?_; intro _ hid_ hih_; simp only [upd_none, upd_none', rr_eqs2, and_true] at hid_ hih_) | (with_reducible refine mkmS_in ?_; intro _ hid_; simp only [upd_none] at hid_)) | (with_reducible refine brC_in (fun h_ => ?_) (fun h_ => ?_)) | (with_reducible refine brG_in (fun h_ => ?_) (fun h_ => ?_)) | (with_reducible refine brN_in (fun h_ => ?_) (fun h_ => ?_)) | simp only [sZ, initT, optI, splice, reduceIte, reduceCtorEq, Nat.reduceEqDiff, Nat.reduceAdd, Nat.reduceSub, Nat.reduceMul, Nat.reduceLeDiff, Nat.reduceLT, Int.reduceLT, Int.reduceLE, Int.reduceToNat, Int.reduceEq, Int.cast_ofNat_Int, *, encEdit, -hF])
  all_goals refine OutQ.eq (by repeat (first | exact SExt.refl _ | (refine SExt.old ?_ (by first | (simp only [*]; done) | (simp only [upd_none]; assumption) | (simp only [upd_none, *, not_false_eq_true, and_self]; done)) _))) ?_
  all_goals rw [hF]
  all_goals clear hF
  all_goals simp_all only [Bool.not_eq_true', Bool.not_eq_false', Bool.not_not, Bool.not_true, Bool.not_false, Bool.and_true, Bool.true_and, Bool.and_false, Bool.false_and, Bool.or_true, Bool.true_or, Bool.or_false, Bool.false_or]
def togE (kind : Int) (a b : Edit) : Bool :=
  if kind = 4 then !decide (a.obj.id = b.obj.id) && ((decide (a.obj.x = b.obj.x) && decide (a.obj.y = b.obj.y)) && decide (a.obj.tags = b.obj.tags)) else !decide (a.id = b.id)
theorem spec_apart (kind : Int) (hk : ¬ kind = 4) (a b : Edit) {s : Nat → Option Blk} {k : Nat → Tk} : Spec prg 61 [.agg (encEdit a), .agg (encEdit b)] s k (.bool (togE kind a b)) s k := by
  refine spec_tr prg_mixed tr_evidence_apart (Nat.le_of_ble_eq_true rfl) rfl ?_
  unfold pc_evidence_apart rs_evidence_apart
  have hF : togE kind a b = !decide (a.id = b.id) := by unfold togE; rw [if_neg hk]
  rw [hF]
  repeat' (first | (first | (with_reducible refine newS_in ?_; intro _ hid_; simp only [upd_none] at hid_) | (with_reducible refine newR_in ?_; intro _ hid_ hih_; simp only [upd_none, upd_none', rr_eqs2, and_true] at hid_ hih_) | (with_reducible refine mkmS_in ?_; intro _ hid_; simp only [upd_none] at hid_)) | (with_reducible refine brC_in (fun h_ => ?_) (fun h_ => ?_)) | (with_reducible refine brG_in (fun h_ => ?_) (fun h_ => ?_)) | (with_reducible refine brN_in (fun h_ => ?_) (fun h_ => ?_)) | simp only [sZ, initT, optI, splice, reduceIte, reduceCtorEq, Nat.reduceEqDiff, Nat.reduceAdd, Nat.reduceSub, Nat.reduceMul, Nat.reduceLeDiff, Nat.reduceLT, Int.reduceLT, Int.reduceLE, Int.reduceToNat, Int.reduceEq, Int.cast_ofNat_Int, *, encEdit, -hF])
  all_goals refine OutQ.eq (by repeat (first | exact SExt.refl _ | (refine SExt.old ?_ (by first | (simp only [*]; done) | (simp only [upd_none]; assumption) | (simp only [upd_none, *, not_false_eq_true, and_self]; done)) _))) rfl
theorem spec_tog4 (a b : Edit) (hl : a.obj.tags.length < 4611686018427387904) {s : Nat → Option Blk} {k : Nat → Tk} : Spec prg 67 [.agg (encEdit a), .agg (encEdit b)] s k (.bool (togE 4 a b)) s k := by
  refine spec_tr prg_mixed tr_evidence_suspicions_6 (Nat.le_of_ble_eq_true rfl) rfl ?_
  unfold pc_evidence_suspicions_6 rs_evidence_suspicions_6
  have hF : togE 4 a b = (!decide (a.obj.id = b.obj.id) && ((decide (a.obj.x = b.obj.x) && decide (a.obj.y = b.obj.y)) && decide (a.obj.tags = b.obj.tags))) := rfl
  repeat' (first | (refine callS_quiet (spec36 _ _ hl) ?_) | (first | (with_reducible refine newS_in ?_; intro _ hid_; simp only [upd_none] at hid_) | (with_reducible refine newR_in ?_; intro _ hid_ hih_; simp only [upd_none, upd_none', rr_eqs2, and_true] at hid_ hih_) | (with_reducible refine mkmS_in ?_; intro _ hid_; simp only [upd_none] at hid_)) | (with_reducible refine brC_in (fun h_ => ?_) (fun h_ => ?_)) | (with_reducible refine brG_in (fun h_ => ?_) (fun h_ => ?_)) | (with_reducible refine brN_in (fun h_ => ?_) (fun h_ => ?_)) | simp only [sZ, initT, optI, splice, reduceIte, reduceCtorEq, Nat.reduceEqDiff, Nat.reduceAdd, Nat.reduceSub, Nat.reduceMul, Nat.reduceLeDiff, Nat.reduceLT, Int.reduceLT, Int.reduceLE, Int.reduceToNat, Int.reduceEq, Int.cast_ofNat_Int, *, encEdit, -hF, fit_pt, eq_pt])
  all_goals refine OutQ.eq (by repeat (first | exact SExt.refl _ | (refine SExt.old ?_ (by first | (simp only [*]; done) | (simp only [upd_none]; assumption) | (simp only [upd_none, *, not_false_eq_true, and_self]; done)) _))) ?_
  all_goals rw [hF]
  all_goals clear hF
  all_goals simp_all only [Bool.not_eq_true', Bool.not_eq_false', Bool.not_not, Bool.not_true, Bool.not_false, Bool.and_true, Bool.true_and, Bool.and_false, Bool.false_and, Bool.or_true, Bool.true_or, Bool.or_false, Bool.false_or]
def suspA (ob : Nat) : List (List A) := [[.int .i64 1, .int .i64 5, .fn 60 [.ptr ob 0], .fn 61 []], [.int .i64 2, .int .i64 3, .fn 62 [.ptr ob 0], .fn 61 []],
  [.int .i64 3, .int .i64 3, .fn 64 [.ptr ob 0], .fn 61 []], [.int .i64 4, .int .i64 4, .fn 66 [], .fn 67 []]]
def suspR (m : List Obj) (s : Hp) (k : Nat → Tk) : A → Hp → (Nat → Tk) → Prop := fun r s' k' => k' = k ∧ ∃ mb ob, s mb = none ∧ s ob = none ∧ ¬ mb = ob ∧ ¬ ob = mb ∧ r = .sl 4 (suspA ob) .full ∧
  s' = upd (upd s mb (some (.cells [.sl 6 (m.map encObj) .no]))) ob (some (.cells [.fn 58 [.ptr mb 0]]))
theorem spec_susp (m : List Obj) {s : Hp} {k : Nat → Tk} : SpecR prg 32 [.agg (encMap m)] s k (suspR m s k) := by
  refine specR_tr prg_mixed tr_evidence_suspicions (Nat.le_of_ble_eq_true rfl) rfl ?_
  unfold pc_evidence_suspicions rs_evidence_suspicions
  simp only [sZ, initT, optI, splice, reduceIte, reduceCtorEq, Nat.reduceEqDiff, Nat.reduceAdd, Nat.reduceSub, Nat.reduceMul, Nat.reduceLeDiff, Nat.reduceLT, Int.reduceLT, Int.reduceLE, Int.reduceToNat, Int.reduceEq, Int.cast_ofNat_Int, encMap]
  (with_reducible refine newS_in ?_); intro b1 f1; simp only [upd_none] at f1
  simp only [sZ, initT, optI, splice, reduceIte, reduceCtorEq, Nat.reduceEqDiff, Nat.reduceAdd, Nat.reduceSub, Nat.reduceMul, Nat.reduceLeDiff, Nat.reduceLT, Int.reduceLT, Int.reduceLE, Int.reduceToNat, Int.reduceEq, Int.cast_ofNat_Int, f1]
  (with_reducible refine newS_in ?_); intro b3 f3; simp only [upd_none] at f3
  simp only [sZ, initT, optI, splice, reduceIte, reduceCtorEq, Nat.reduceEqDiff, Nat.reduceAdd, Nat.reduceSub, Nat.reduceMul, Nat.reduceLeDiff, Nat.reduceLT, Int.reduceLT, Int.reduceLE, Int.reduceToNat, Int.reduceEq, Int.cast_ofNat_Int, f1, f3]
  exact OutR.of ⟨rfl, b1, b3, f1, f3.2, f3.1.2, f3.1.1, rfl, rfl⟩ fun _ => .inr rfl
theorem spec_fits_1 (x e : Edit) (ft : FuncId) (v : Bool) {s : Nat → Option Blk} {k : Nat → Tk} {sb eb : Nat} (u1 u2 u3 : A) (ha : s sb = some (.cells [u1, u2, u3, .fn ft []])) (hb : s eb = some (.cells (encEdit e)))
    (hT : ∀ s', Spec prg ft [.agg (encEdit x), .agg (encEdit e)] s' k (.bool v) s' k) :
    Spec prg 36 [.agg (encEdit x), .ptr sb 0, .ptr eb 0] s k (.bool !v) s k := by
  refine spec_tr prg_mixed tr_evidence_Find_1_1 (Nat.le_of_ble_eq_true rfl) rfl ?_
  unfold pc_evidence_Find_1_1 rs_evidence_Find_1_1
  simp only [sZ, initT, optI, splice, reduceIte, reduceCtorEq, Nat.reduceEqDiff, Nat.reduceAdd, Nat.reduceSub, Nat.reduceMul, Nat.reduceLeDiff, Nat.reduceLT, Int.reduceLT, Int.reduceLE, Int.reduceToNat, Int.reduceEq, Int.cast_ofNat_Int]
  (with_reducible refine newS_in ?_); intro b3 f3; simp only [upd_none] at f3
  have n1 : ¬ sb = b3 := fun e => by subst e; rw [ha] at f3; cases f3
  have n2 : ¬ eb = b3 := fun e => by subst e; rw [hb] at f3; cases f3
  simp only [sZ, initT, optI, splice, reduceIte, reduceCtorEq, Nat.reduceEqDiff, Nat.reduceAdd, Nat.reduceSub, Nat.reduceMul, Nat.reduceLeDiff, Nat.reduceLT, Int.reduceLT, Int.reduceLE, Int.reduceToNat, Int.reduceEq, Int.cast_ofNat_Int, n1, n2, f3, ha, hb, len_encEdit, wh_encEdit, st_encEdit]
  refine callS_quiet (hT _) ?_
  simp only [sZ, initT, optI, splice, reduceIte, reduceCtorEq, Nat.reduceEqDiff, Nat.reduceAdd, Nat.reduceSub, Nat.reduceMul, Nat.reduceLeDiff, Nat.reduceLT, Int.reduceLT, Int.reduceLE, Int.reduceToNat, Int.reduceEq, Int.cast_ofNat_Int, n1, n2, f3, ha, hb]
  refine OutQ.eq (by repeat (first | exact SExt.refl _ | (refine SExt.old ?_ (by first | (simp only [*]; done) | (simp only [upd_none]; assumption) | (simp only [upd_none, *, not_false_eq_true, and_self]; done)) _))) rfl
theorem spec_fits (e : Edit) (before : List Edit) (hl : before.length < 4611686018427387904) (fs ft : FuncId) (caps : List A) (p : Bool) (tog : Edit → Bool) {s : Nat → Option Blk} {k : Nat → Tk} {sb : Nat} (u1 u2 : A) (ha : s sb = some (.cells [u1, u2, .fn fs caps, .fn ft []]))
    (hS : ∀ s', SExt s s' → Spec prg fs (.agg (encEdit e) :: caps) s' k (.bool p) s' k) (hT : ∀ y ∈ before, ∀ s', Spec prg ft [.agg (encEdit y), .agg (encEdit e)] s' k (.bool (tog y)) s' k) :
    Spec prg 34 [.agg (encEdit e), .sl 15 (before.map encEdit) .no, .ptr sb 0] s k (.bool (p && before.all tog)) s k := by
  refine spec_tr prg_mixed tr_evidence_Find_1 (Nat.le_of_ble_eq_true rfl) rfl ?_
  unfold pc_evidence_Find_1 rs_evidence_Find_1
  simp only [sZ, initT, optI, splice, reduceIte, reduceCtorEq, Nat.reduceEqDiff, Nat.reduceAdd, Nat.reduceSub, Nat.reduceMul, Nat.reduceLeDiff, Nat.reduceLT, Int.reduceLT, Int.reduceLE, Int.reduceToNat, Int.reduceEq, Int.cast_ofNat_Int]
  (with_reducible refine newS_in ?_); intro b3 f3; simp only [upd_none] at f3
  have n1 : ¬ sb = b3 := fun e => by subst e; rw [ha] at f3; cases f3
  simp only [sZ, initT, optI, splice, reduceIte, reduceCtorEq, Nat.reduceEqDiff, Nat.reduceAdd, Nat.reduceSub, Nat.reduceMul, Nat.reduceLeDiff, Nat.reduceLT, Int.reduceLT, Int.reduceLE, Int.reduceToNat, Int.reduceEq, Int.cast_ofNat_Int, n1, f3, ha, len_encEdit, wh_encEdit, st_encEdit]
  refine callS_quiet (hS _ (by repeat (first | exact SExt.refl _ | (refine SExt.old ?_ (by first | (simp only [*]; done) | (simp only [upd_none]; assumption) | (simp only [upd_none, *, not_false_eq_true, and_self]; done)) _)))) ?_
  cases p
  · simp only [sZ, initT, optI, splice, reduceIte, reduceCtorEq, Nat.reduceEqDiff, Nat.reduceAdd, Nat.reduceSub, Nat.reduceMul, Nat.reduceLeDiff, Nat.reduceLT, Int.reduceLT, Int.reduceLE, Int.reduceToNat, Int.reduceEq, Int.cast_ofNat_Int, n1, f3, ha]
    refine OutQ.eq (by repeat (first | exact SExt.refl _ | (refine SExt.old ?_ (by first | (simp only [*]; done) | (simp only [upd_none]; assumption) | (simp only [upd_none, *, not_false_eq_true, and_self]; done)) _))) rfl
  · simp only [sZ, initT, optI, splice, reduceIte, reduceCtorEq, Nat.reduceEqDiff, Nat.reduceAdd, Nat.reduceSub, Nat.reduceMul, Nat.reduceLeDiff, Nat.reduceLT, Int.reduceLT, Int.reduceLE, Int.reduceToNat, Int.reduceEq, Int.cast_ofNat_Int, n1, f3, ha]
    refine callS_quiet (r := .bool (before.any fun y => !tog y)) ?_ ?_
    · refine spec16 before (fun y => !tog y) _ _ hl fun y hy => ?_
      exact spec_fits_1 y e ft (tog y) u1 u2 (.fn fs caps) (by simp only [upd_apply, n1, reduceIte, ha]) (by simp only [upd_apply, n1, reduceIte, ha]) (hT y hy)
    simp only [sZ, initT, optI, splice, reduceIte, reduceCtorEq, Nat.reduceEqDiff, Nat.reduceAdd, Nat.reduceSub, Nat.reduceMul, Nat.reduceLeDiff, Nat.reduceLT, Int.reduceLT, Int.reduceLE, Int.reduceToNat, Int.reduceEq, Int.cast_ofNat_Int, n1, f3, ha]
    refine OutQ.eq (by repeat (first | exact SExt.refl _ | (refine SExt.old ?_ (by first | (simp only [*]; done) | (simp only [upd_none]; assumption) | (simp only [upd_none, *, not_false_eq_true, and_self]; done)) _))) ?_
    rw [Bool.true_and, List.all_eq_not_any_not]
end Go.Pv
