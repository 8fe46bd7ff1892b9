/- The reference's comparison of objects and of maps. -/
import Derived.Test.YtlcacobkiglmbaaEvG
set_option linter.unusedVariables false
set_option linter.unusedSimpArgs false
set_option maxRecDepth 4000
set_option maxHeartbeats 2000000
namespace Go.Pv
open Go

theorem SExt.trans {a b c : Nat → Option Blk} (h : SExt a b) (h' : SExt b c) : SExt a c := fun id hid => by
  rw [h' id (by rw [h id hid]; exact hid), h id hid]
theorem OutQ.eqk {s s' : Nat → Option Blk} {k k' : Nat → Tk} {t : Nat → A} {r r1 : A} (h2 : SExt s s') (hk : KExt k k') (h1 : r1 = r) : OutQ s k r r1 ⟨t, s', k'⟩ := ⟨.le (h1 ▸ A.le_refl _), h2, hk⟩
theorem list_eq_of_get {α : Type} {a b : List α} (hlen : a.length = b.length) (h : ∀ j (h1 : j < a.length) (h2 : j < b.length), a[j] = b[j]) : a = b := List.ext_getElem hlen h
def sameO (a b : Obj) : Bool := decide (a.id = b.id) && (decide (a.kind = b.kind) && ((decide (a.x = b.x) && decide (a.y = b.y)) && (decide (a.refs = b.refs) && decide (a.tags = b.tags))))
instance decObj : DecidableEq Obj := fun a b => match a, b with
  | ⟨i, k, x, y, r, t⟩, ⟨i', k', x', y', r', t'⟩ => decidable_of_iff (i = i' ∧ k = k' ∧ x = x' ∧ y = y' ∧ r = r' ∧ t = t') (by rw [Obj.mk.injEq])
theorem sameO_iff (a b : Obj) : sameO a b = decide (a = b) := by
  obtain ⟨i, k, x, y, r, t⟩ := a
  obtain ⟨i', k', x', y', r', t'⟩ := b
  unfold sameO
  rw [Bool.eq_iff_iff]
  simp only [Bool.and_eq_true, decide_eq_true_eq, Obj.mk.injEq]
  constructor
  · rintro ⟨h1, h2, ⟨h3, h4⟩, h5, h6⟩
    exact ⟨h1, h2, h3, h4, h5, h6⟩
  · rintro ⟨h1, h2, h3, h4, h5, h6⟩
    exact ⟨h1, h2, ⟨h3, h4⟩, h5, h6⟩
theorem spec_sameR (a b : Obj) (h1 : a.refs.length < 4611686018427387904) (h2 : a.tags.length < 4611686018427387904) {s : Nat → Option Blk} {k : Nat → Tk} : Spec prg 48 [.agg (encObj a), .agg (encObj b)] s k (.bool (decide (a = b))) s k := by
  refine spec_tr prg_mixed tr_pref11_Same (Nat.le_of_ble_eq_true rfl) rfl ?_
  unfold pc_pref11_Same rs_pref11_Same
  rw [← sameO_iff]
  obtain ⟨i, ki, x, y, re, ta⟩ := a
  obtain ⟨i', ki', x', y', re', ta'⟩ := b
  dsimp only at h1 h2
  have ho : sameO ⟨i, ki, x, y, re, ta⟩ ⟨i', ki', x', y', re', ta'⟩ = (decide (i = i') && (decide (ki = ki') && ((decide (x = x') && decide (y = y')) && (decide (re = re') && decide (ta = ta'))))) := rfl
  simp only [sZ, initT, optI, splice, reduceIte, reduceCtorEq, Nat.reduceEqDiff, Nat.reduceAdd, Nat.reduceSub, Nat.reduceMul, Nat.reduceLeDiff, Nat.reduceLT, Int.reduceLT, Int.reduceLE, Int.reduceToNat, Int.reduceEq, Int.cast_ofNat_Int, encObj]
  (with_reducible refine newS_in ?_); intro b2 f2; simp only [upd_none] at f2
  simp only [sZ, initT, optI, splice, reduceIte, reduceCtorEq, Nat.reduceEqDiff, Nat.reduceAdd, Nat.reduceSub, Nat.reduceMul, Nat.reduceLeDiff, Nat.reduceLT, Int.reduceLT, Int.reduceLE, Int.reduceToNat, Int.reduceEq, Int.cast_ofNat_Int, f2]
  (with_reducible refine newS_in ?_); intro b3 f3; simp only [upd_none] at f3
  by_cases e1 : i = i'
  case neg =>
    have d1 := decide_eq_false e1
    rw [ho, d1, Bool.false_and]
    simp only [sZ, initT, optI, splice, reduceIte, reduceCtorEq, Nat.reduceEqDiff, Nat.reduceAdd, Nat.reduceSub, Nat.reduceMul, Nat.reduceLeDiff, Nat.reduceLT, Int.reduceLT, Int.reduceLE, Int.reduceToNat, Int.reduceEq, Int.cast_ofNat_Int, f2, f3, d1, Bool.not_false]
    refine OutQ.eq (by repeat (first | exact SExt.refl _ | (refine SExt.old ?_ (by first | (simp only [*]; done) | (simp only [upd_none]; assumption) | (simp only [upd_none, *, not_false_eq_true, and_self]; done)) _))) rfl
  have d1 := decide_eq_true e1
  by_cases e2 : ki = ki'
  case neg =>
    have d2 := decide_eq_false e2
    rw [ho, d2, Bool.false_and, Bool.and_false]
    simp only [sZ, initT, optI, splice, reduceIte, reduceCtorEq, Nat.reduceEqDiff, Nat.reduceAdd, Nat.reduceSub, Nat.reduceMul, Nat.reduceLeDiff, Nat.reduceLT, Int.reduceLT, Int.reduceLE, Int.reduceToNat, Int.reduceEq, Int.cast_ofNat_Int, f2, f3, d1, d2, Bool.not_false, Bool.not_true]
    refine OutQ.eq (by repeat (first | exact SExt.refl _ | (refine SExt.old ?_ (by first | (simp only [*]; done) | (simp only [upd_none]; assumption) | (simp only [upd_none, *, not_false_eq_true, and_self]; done)) _))) rfl
  have d2 := decide_eq_true e2
  by_cases e3 : x = x' ∧ y = y'
  case neg =>
    have d3 : (decide (x = x') && decide (y = y')) = false := by
      rw [Bool.and_eq_false_iff, decide_eq_false_iff_not, decide_eq_false_iff_not]
      by_cases hx : x = x'
      · exact .inr fun hy => e3 ⟨hx, hy⟩
      · exact .inl hx
    rw [ho, d3, Bool.false_and, Bool.and_false, Bool.and_false]
    simp only [sZ, initT, optI, splice, reduceIte, reduceCtorEq, Nat.reduceEqDiff, Nat.reduceAdd, Nat.reduceSub, Nat.reduceMul, Nat.reduceLeDiff, Nat.reduceLT, Int.reduceLT, Int.reduceLE, Int.reduceToNat, Int.reduceEq, Int.cast_ofNat_Int, f2, f3, d1, d2, d3, fit_pt, eq_pt, Bool.not_false, Bool.not_true]
    refine OutQ.eq (by repeat (first | exact SExt.refl _ | (refine SExt.old ?_ (by first | (simp only [*]; done) | (simp only [upd_none]; assumption) | (simp only [upd_none, *, not_false_eq_true, and_self]; done)) _))) rfl
  have d3 : (decide (x = x') && decide (y = y')) = true := by rw [decide_eq_true e3.1, decide_eq_true e3.2]; rfl
  rw [d1, d2, d3, Bool.true_and, Bool.true_and, Bool.true_and] at ho
  by_cases e4 : re.length = re'.length
  case neg =>
    have d4 : (decide ((re.length : Int) = (re'.length : Int))) = false := decide_eq_false (by omega)
    have : re ≠ re' := fun e => e4 (by rw [e])
    rw [ho, decide_eq_false this, Bool.false_and]
    simp only [sZ, initT, optI, splice, reduceIte, reduceCtorEq, Nat.reduceEqDiff, Nat.reduceAdd, Nat.reduceSub, Nat.reduceMul, Nat.reduceLeDiff, Nat.reduceLT, Int.reduceLT, Int.reduceLE, Int.reduceToNat, Int.reduceEq, Int.cast_ofNat_Int, f2, f3, d1, d2, d3, d4, fit_pt, eq_pt, Bool.not_false, Bool.not_true]
    refine OutQ.eq (by repeat (first | exact SExt.refl _ | (refine SExt.old ?_ (by first | (simp only [*]; done) | (simp only [upd_none]; assumption) | (simp only [upd_none, *, not_false_eq_true, and_self]; done)) _))) rfl
  have d4 : (decide ((re.length : Int) = (re'.length : Int))) = true := decide_eq_true (by omega)
  by_cases e5 : ta.length = ta'.length
  case neg =>
    have d5 : (decide ((ta.length : Int) = (ta'.length : Int))) = false := decide_eq_false (by omega)
    have : ta ≠ ta' := fun e => e5 (by rw [e])
    rw [ho, decide_eq_false this, Bool.and_false]
    simp only [sZ, initT, optI, splice, reduceIte, reduceCtorEq, Nat.reduceEqDiff, Nat.reduceAdd, Nat.reduceSub, Nat.reduceMul, Nat.reduceLeDiff, Nat.reduceLT, Int.reduceLT, Int.reduceLE, Int.reduceToNat, Int.reduceEq, Int.cast_ofNat_Int, f2, f3, d1, d2, d3, d4, d5, fit_pt, eq_pt, Bool.not_false, Bool.not_true]
    refine OutQ.eq (by repeat (first | exact SExt.refl _ | (refine SExt.old ?_ (by first | (simp only [*]; done) | (simp only [upd_none]; assumption) | (simp only [upd_none, *, not_false_eq_true, and_self]; done)) _))) rfl
  have d5 : (decide ((ta.length : Int) = (ta'.length : Int))) = true := decide_eq_true (by omega)
  simp only [sZ, initT, optI, splice, reduceIte, reduceCtorEq, Nat.reduceEqDiff, Nat.reduceAdd, Nat.reduceSub, Nat.reduceMul, Nat.reduceLeDiff, Nat.reduceLT, Int.reduceLT, Int.reduceLE, Int.reduceToNat, Int.reduceEq, Int.cast_ofNat_Int, f2, f3, d1, d2, d3, d4, d5, fit_pt, eq_pt, Bool.not_false, Bool.not_true]
  refine loop_L (α := Unit) re.length (fun j _ => [(2, .ptr b2 0), (3, .ptr b3 0), (5, .int .i64 j)]) (fun _ _ => upd (upd s b2 (some (.cells [.str i, .int .i64 ki, .int .i64 x, .int .i64 y, .sl 1 (re.map encStr) .no, .sl 2 (ta.map encTag) .no]))) b3 (some (.cells [.str i', .int .i64 ki', .int .i64 x', .int .i64 y', .sl 1 (re'.map encStr) .no, .sl 2 (ta'.map encTag) .no]))) (fun _ _ => k)
    (fun j _ => ∀ q (h : q < re.length) (h2 : q < re'.length), q < j → re[q] = re'[q]) () (SExt.refl _) rfl (by (try simp only [TabLe_cons, TabLe_nil, tab_cons, tab_nil, upd_apply, Nat.reduceEqDiff, reduceIte, and_true]); repeat' (first | exact trivial | exact A.le_refl _ | exact le_strip_no _ _ _ | exact A.le_no _ _ _ | exact A.le_empty _ _ _ | refine And.intro ?_ ?_)) (fun i _ _ h => by omega) ?_
  rintro j ⟨⟩ hj hall
  try dsimp only
  simp only [sZ, initT, optI, splice, reduceIte, reduceCtorEq, Nat.reduceEqDiff, Nat.reduceAdd, Nat.reduceSub, Nat.reduceMul, Nat.reduceLeDiff, Nat.reduceLT, Int.reduceLT, Int.reduceLE, Int.reduceToNat, Int.reduceEq, Int.cast_ofNat_Int, f2, f3]
  refine brC_in (fun hlt => ?_) (fun hge => ?_)
  · have hj' : j < re.length := by have := of_decide_eq_true hlt; omega
    clear hlt
    have hw := wrap_succ hj' (by omega)
    have ga : (re.map encStr)[j]? = some (encStr re[j]) := strE.get hj'
    have gb : (re'.map encStr)[j]? = some (encStr re'[j]) := strE.get (by omega)
    simp only [sZ, initT, optI, splice, reduceIte, reduceCtorEq, Nat.reduceEqDiff, Nat.reduceAdd, Nat.reduceSub, Nat.reduceMul, Nat.reduceLeDiff, Nat.reduceLT, Int.reduceLT, Int.reduceLE, Int.reduceToNat, Int.reduceEq, Int.cast_ofNat_Int, f2, f3, ga, gb, get_str]
    refine brC_in (fun hp1 => ?_) (fun hp0 => ?_)
    · have : re ≠ re' := fun e => by subst e; simp at hp1
      rw [ho, decide_eq_false this, Bool.false_and]
      simp only [sZ, initT, optI, splice, reduceIte, reduceCtorEq, Nat.reduceEqDiff, Nat.reduceAdd, Nat.reduceSub, Nat.reduceMul, Nat.reduceLeDiff, Nat.reduceLT, Int.reduceLT, Int.reduceLE, Int.reduceToNat, Int.reduceEq, Int.cast_ofNat_Int, f2, f3]
      refine OutQ.eq (by repeat (first | exact SExt.refl _ | (refine SExt.old ?_ (by first | (simp only [*]; done) | (simp only [upd_none]; assumption) | (simp only [upd_none, *, not_false_eq_true, and_self]; done)) _))) rfl
    · simp only [sZ, initT, optI, splice, reduceIte, reduceCtorEq, Nat.reduceEqDiff, Nat.reduceAdd, Nat.reduceSub, Nat.reduceMul, Nat.reduceLeDiff, Nat.reduceLT, Int.reduceLT, Int.reduceLE, Int.reduceToNat, Int.reduceEq, Int.cast_ofNat_Int, hw]
      refine next_L hj' () (SExt.refl _) rfl (by (try simp only [TabLe_cons, TabLe_nil, tab_cons, tab_nil, upd_apply, Nat.reduceEqDiff, reduceIte, and_true]); repeat' (first | exact trivial | exact A.le_refl _ | exact le_strip_no _ _ _ | exact A.le_no _ _ _ | exact A.le_empty _ _ _ | refine And.intro ?_ ?_)) fun q h1 h2 h3 => ?_
      by_cases h : q = j
      · subst h; simpa using hp0
      · exact hall q h1 h2 (by omega)
  have hre : re = re' := list_eq_of_get e4 fun q g1 g2 => hall q g1 g2 (by have := of_decide_eq_false hge; omega)
  rw [decide_eq_true hre, Bool.true_and] at ho
  clear hall hge
  simp only [sZ, initT, optI, splice, reduceIte, reduceCtorEq, Nat.reduceEqDiff, Nat.reduceAdd, Nat.reduceSub, Nat.reduceMul, Nat.reduceLeDiff, Nat.reduceLT, Int.reduceLT, Int.reduceLE, Int.reduceToNat, Int.reduceEq, Int.cast_ofNat_Int, f2, f3]
  refine loop_L (α := Unit) ta.length (fun j _ => [(2, .ptr b2 0), (3, .ptr b3 0), (6, .int .i64 j)]) (fun _ _ => upd (upd s b2 (some (.cells [.str i, .int .i64 ki, .int .i64 x, .int .i64 y, .sl 1 (re.map encStr) .no, .sl 2 (ta.map encTag) .no]))) b3 (some (.cells [.str i', .int .i64 ki', .int .i64 x', .int .i64 y', .sl 1 (re'.map encStr) .no, .sl 2 (ta'.map encTag) .no]))) (fun _ _ => k)
    (fun j _ => ∀ q (h : q < ta.length) (h2 : q < ta'.length), q < j → ta[q] = ta'[q]) () (SExt.refl _) rfl (by (try simp only [TabLe_cons, TabLe_nil, tab_cons, tab_nil, upd_apply, Nat.reduceEqDiff, reduceIte, and_true]); repeat' (first | exact trivial | exact A.le_refl _ | exact le_strip_no _ _ _ | exact A.le_no _ _ _ | exact A.le_empty _ _ _ | refine And.intro ?_ ?_)) (fun i _ _ h => by omega) ?_
  clear hj
  rintro j ⟨⟩ hj hall
  try dsimp only
  simp only [sZ, initT, optI, splice, reduceIte, reduceCtorEq, Nat.reduceEqDiff, Nat.reduceAdd, Nat.reduceSub, Nat.reduceMul, Nat.reduceLeDiff, Nat.reduceLT, Int.reduceLT, Int.reduceLE, Int.reduceToNat, Int.reduceEq, Int.cast_ofNat_Int, f2, f3]
  refine brC_in (fun hlt => ?_) (fun hge => ?_)
  · have hj' : j < ta.length := by have := of_decide_eq_true hlt; omega
    clear hlt
    have hw := wrap_succ hj' (by omega)
    have ga : (ta.map encTag)[j]? = some (encTag ta[j]) := tagE.get hj'
    have gb : (ta'.map encTag)[j]? = some (encTag ta'[j]) := tagE.get (by omega)
    simp only [sZ, initT, optI, splice, reduceIte, reduceCtorEq, Nat.reduceEqDiff, Nat.reduceAdd, Nat.reduceSub, Nat.reduceMul, Nat.reduceLeDiff, Nat.reduceLT, Int.reduceLT, Int.reduceLE, Int.reduceToNat, Int.reduceEq, Int.cast_ofNat_Int, f2, f3, ga, gb, len_encTag, wh_encTag, st_encTag, fit_tag, eq_tag]
    refine brC_in (fun hp1 => ?_) (fun hp0 => ?_)
    · have : ta ≠ ta' := fun e => by subst e; simp at hp1
      rw [ho, decide_eq_false this]
      simp only [sZ, initT, optI, splice, reduceIte, reduceCtorEq, Nat.reduceEqDiff, Nat.reduceAdd, Nat.reduceSub, Nat.reduceMul, Nat.reduceLeDiff, Nat.reduceLT, Int.reduceLT, Int.reduceLE, Int.reduceToNat, Int.reduceEq, Int.cast_ofNat_Int, f2, f3]
      refine OutQ.eq (by repeat (first | exact SExt.refl _ | (refine SExt.old ?_ (by first | (simp only [*]; done) | (simp only [upd_none]; assumption) | (simp only [upd_none, *, not_false_eq_true, and_self]; done)) _))) rfl
    · simp only [sZ, initT, optI, splice, reduceIte, reduceCtorEq, Nat.reduceEqDiff, Nat.reduceAdd, Nat.reduceSub, Nat.reduceMul, Nat.reduceLeDiff, Nat.reduceLT, Int.reduceLT, Int.reduceLE, Int.reduceToNat, Int.reduceEq, Int.cast_ofNat_Int, hw]
      refine next_L hj' () (SExt.refl _) rfl (by (try simp only [TabLe_cons, TabLe_nil, tab_cons, tab_nil, upd_apply, Nat.reduceEqDiff, reduceIte, and_true]); repeat' (first | exact trivial | exact A.le_refl _ | exact le_strip_no _ _ _ | exact A.le_no _ _ _ | exact A.le_empty _ _ _ | refine And.intro ?_ ?_)) fun q h1 h2 h3 => ?_
      by_cases h : q = j
      · subst h; simpa using hp0
      · exact hall q h1 h2 (by omega)
  have hta : ta = ta' := list_eq_of_get e5 fun q g1 g2 => hall q g1 g2 (by have := of_decide_eq_false hge; omega)
  rw [ho, decide_eq_true hta]
  simp only [sZ, initT, optI, splice, reduceIte, reduceCtorEq, Nat.reduceEqDiff, Nat.reduceAdd, Nat.reduceSub, Nat.reduceMul, Nat.reduceLeDiff, Nat.reduceLT, Int.reduceLT, Int.reduceLE, Int.reduceToNat, Int.reduceEq, Int.cast_ofNat_Int, f2, f3]
  refine OutQ.eq (by repeat (first | exact SExt.refl _ | (refine SExt.old ?_ (by first | (simp only [*]; done) | (simp only [upd_none]; assumption) | (simp only [upd_none, *, not_false_eq_true, and_self]; done)) _))) rfl
theorem spec_sameM (a b : List Obj) (hl : a.length < 4611686018427387904) (ha : ∀ o ∈ a, o.refs.length < 4611686018427387904 ∧ o.tags.length < 4611686018427387904) {s : Nat → Option Blk} {k : Nat → Tk} : Spec prg 17 [.agg (encMap a), .agg (encMap b)] s k (.bool (decide (a = b))) s k := by
  refine spec_tr prg_mixed tr_pref12_Same (Nat.le_of_ble_eq_true rfl) rfl ?_
  unfold pc_pref12_Same rs_pref12_Same
  simp only [sZ, initT, optI, splice, reduceIte, reduceCtorEq, Nat.reduceEqDiff, Nat.reduceAdd, Nat.reduceSub, Nat.reduceMul, Nat.reduceLeDiff, Nat.reduceLT, Int.reduceLT, Int.reduceLE, Int.reduceToNat, Int.reduceEq, Int.cast_ofNat_Int, encMap]
  (with_reducible refine newS_in ?_); intro b2 f2; simp only [upd_none] at f2
  simp only [sZ, initT, optI, splice, reduceIte, reduceCtorEq, Nat.reduceEqDiff, Nat.reduceAdd, Nat.reduceSub, Nat.reduceMul, Nat.reduceLeDiff, Nat.reduceLT, Int.reduceLT, Int.reduceLE, Int.reduceToNat, Int.reduceEq, Int.cast_ofNat_Int, f2]
  (with_reducible refine newS_in ?_); intro b3 f3; simp only [upd_none] at f3
  by_cases e4 : a.length = b.length
  case neg =>
    have d4 : (!decide ((a.length : Int) = (b.length : Int))) = true := by rw [decide_eq_false (by omega)]; rfl
    have : a ≠ b := fun e => e4 (by rw [e])
    rw [decide_eq_false this]
    simp only [sZ, initT, optI, splice, reduceIte, reduceCtorEq, Nat.reduceEqDiff, Nat.reduceAdd, Nat.reduceSub, Nat.reduceMul, Nat.reduceLeDiff, Nat.reduceLT, Int.reduceLT, Int.reduceLE, Int.reduceToNat, Int.reduceEq, Int.cast_ofNat_Int, f2, f3, d4]
    refine OutQ.eq (by repeat (first | exact SExt.refl _ | (refine SExt.old ?_ (by first | (simp only [*]; done) | (simp only [upd_none]; assumption) | (simp only [upd_none, *, not_false_eq_true, and_self]; done)) _))) rfl
  have d4 : (!decide ((a.length : Int) = (b.length : Int))) = false := by rw [decide_eq_true (by omega)]; rfl
  simp only [sZ, initT, optI, splice, reduceIte, reduceCtorEq, Nat.reduceEqDiff, Nat.reduceAdd, Nat.reduceSub, Nat.reduceMul, Nat.reduceLeDiff, Nat.reduceLT, Int.reduceLT, Int.reduceLE, Int.reduceToNat, Int.reduceEq, Int.cast_ofNat_Int, f2, f3, d4]
  refine loop_L (α := Unit) a.length (fun j _ => [(2, .ptr b2 0), (3, .ptr b3 0), (5, .int .i64 j)]) (fun _ _ => upd (upd s b2 (some (.cells [.sl 6 (a.map encObj) .no]))) b3 (some (.cells [.sl 6 (b.map encObj) .no]))) (fun _ _ => k)
    (fun j _ => ∀ q (h : q < a.length) (h2 : q < b.length), q < j → a[q] = b[q]) () (SExt.refl _) rfl (by (try simp only [TabLe_cons, TabLe_nil, tab_cons, tab_nil, upd_apply, Nat.reduceEqDiff, reduceIte, and_true]); repeat' (first | exact trivial | exact A.le_refl _ | exact le_strip_no _ _ _ | exact A.le_no _ _ _ | exact A.le_empty _ _ _ | refine And.intro ?_ ?_)) (fun i _ _ h => by omega) ?_
  rintro j ⟨⟩ hj hall
  try dsimp only
  simp only [sZ, initT, optI, splice, reduceIte, reduceCtorEq, Nat.reduceEqDiff, Nat.reduceAdd, Nat.reduceSub, Nat.reduceMul, Nat.reduceLeDiff, Nat.reduceLT, Int.reduceLT, Int.reduceLE, Int.reduceToNat, Int.reduceEq, Int.cast_ofNat_Int, f2, f3]
  refine brC_in (fun hlt => ?_) (fun hge => ?_)
  · have hj' : j < a.length := by have := of_decide_eq_true hlt; omega
    clear hlt
    have hw := wrap_succ hj' (by omega)
    have ga : (a.map encObj)[j]? = some (encObj a[j]) := objE.get hj'
    have gb : (b.map encObj)[j]? = some (encObj b[j]) := objE.get (by omega)
    have hh := ha a[j] (List.getElem_mem hj')
    simp only [sZ, initT, optI, splice, reduceIte, reduceCtorEq, Nat.reduceEqDiff, Nat.reduceAdd, Nat.reduceSub, Nat.reduceMul, Nat.reduceLeDiff, Nat.reduceLT, Int.reduceLT, Int.reduceLE, Int.reduceToNat, Int.reduceEq, Int.cast_ofNat_Int, f2, f3, ga, gb, len_encObj, wh_encObj, st_encObj]
    refine callQS_quiet (spec_sameR a[j] b[j] hh.1 hh.2) ?_
    by_cases e : a[j] = b[j]
    · have de := decide_eq_true e
      simp only [sZ, initT, optI, splice, reduceIte, reduceCtorEq, Nat.reduceEqDiff, Nat.reduceAdd, Nat.reduceSub, Nat.reduceMul, Nat.reduceLeDiff, Nat.reduceLT, Int.reduceLT, Int.reduceLE, Int.reduceToNat, Int.reduceEq, Int.cast_ofNat_Int, f2, f3, de, Bool.not_true, hw]
      refine next_L hj' () (SExt.refl _) rfl (by (try simp only [TabLe_cons, TabLe_nil, tab_cons, tab_nil, upd_apply, Nat.reduceEqDiff, reduceIte, and_true]); repeat' (first | exact trivial | exact A.le_refl _ | exact le_strip_no _ _ _ | exact A.le_no _ _ _ | exact A.le_empty _ _ _ | refine And.intro ?_ ?_)) fun q h1 h2 h3 => ?_
      by_cases h : q = j
      · subst h; exact e
      · exact hall q h1 h2 (by omega)
    · have de := decide_eq_false e
      have : a ≠ b := fun h => by subst h; exact e rfl
      rw [decide_eq_false this]
      simp only [sZ, initT, optI, splice, reduceIte, reduceCtorEq, Nat.reduceEqDiff, Nat.reduceAdd, Nat.reduceSub, Nat.reduceMul, Nat.reduceLeDiff, Nat.reduceLT, Int.reduceLT, Int.reduceLE, Int.reduceToNat, Int.reduceEq, Int.cast_ofNat_Int, f2, f3, de, Bool.not_false]
      refine OutQ.eq (by repeat (first | exact SExt.refl _ | (refine SExt.old ?_ (by first | (simp only [*]; done) | (simp only [upd_none]; assumption) | (simp only [upd_none, *, not_false_eq_true, and_self]; done)) _))) rfl
  have hab : a = b := list_eq_of_get e4 fun q g1 g2 => hall q g1 g2 (by have := of_decide_eq_false hge; omega)
  rw [decide_eq_true hab]
  simp only [sZ, initT, optI, splice, reduceIte, reduceCtorEq, Nat.reduceEqDiff, Nat.reduceAdd, Nat.reduceSub, Nat.reduceMul, Nat.reduceLeDiff, Nat.reduceLT, Int.reduceLT, Int.reduceLE, Int.reduceToNat, Int.reduceEq, Int.cast_ofNat_Int, f2, f3]
  refine OutQ.eq (by repeat (first | exact SExt.refl _ | (refine SExt.old ?_ (by first | (simp only [*]; done) | (simp only [upd_none]; assumption) | (simp only [upd_none, *, not_false_eq_true, and_self]; done)) _))) rfl
end Go.Pv
