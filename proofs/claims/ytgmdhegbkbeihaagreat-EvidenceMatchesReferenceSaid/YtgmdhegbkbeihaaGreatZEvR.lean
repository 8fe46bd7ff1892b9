/- The parts of the law: counting, comparing. -/
import Derived.Test.YtgmdhegbkbeihaaGreatZEvQ
import Derived.Test.YtgmdhegbkbeihaaGreatZLawL
set_option linter.unusedVariables false
set_option linter.unusedSimpArgs false
set_option maxRecDepth 4000
set_option maxHeartbeats 2000000
namespace Go.Pv
open Go

def sameEv (a b : Evid) : Bool := decide (a.kind = b.kind) && decide (a.edits = b.edits)
theorem get_int (x : Int) : (encInt x)[0]? = some (.int .i64 x) := rfl
theorem spec_sameEv (a b : Evid) (hl : a.edits.length < 70000) {s : Nat → Option Blk} {k : Nat → Tk} : Spec prg 12 [.agg (encEvid a), .agg (encEvid b)] s k (.bool (sameEv a b)) s k := by
  refine spec_tr prg_mixed tr_pref31_Same (Nat.le_of_ble_eq_true rfl) rfl ?_
  unfold pc_pref31_Same rs_pref31_Same
  obtain ⟨ka, ea⟩ := a
  obtain ⟨kb, eb⟩ := b
  dsimp only at hl
  simp only [sZ, initT, optI, splice, reduceIte, reduceCtorEq, Nat.reduceEqDiff, Nat.reduceAdd, Nat.reduceSub, Nat.reduceMul, Nat.reduceLeDiff, Nat.reduceLT, Int.reduceLT, Int.reduceLE, Int.reduceToNat, Int.reduceEq, Int.cast_ofNat_Int, encEvid]
  (with_reducible refine newS_in ?_); intro b2 f2; simp only [upd_none] at f2
  simp only [sZ, initT, optI, splice, reduceIte, reduceCtorEq, Nat.reduceEqDiff, Nat.reduceAdd, Nat.reduceSub, Nat.reduceMul, Nat.reduceLeDiff, Nat.reduceLT, Int.reduceLT, Int.reduceLE, Int.reduceToNat, Int.reduceEq, Int.cast_ofNat_Int, f2]
  (with_reducible refine newS_in ?_); intro b3 f3; simp only [upd_none] at f3
  by_cases h1 : ka = kb
  · have d1 : (!decide (ka = kb)) = false := by rw [decide_eq_true h1]; rfl
    by_cases h2 : ea.length = eb.length
    · have d2 : (!decide ((ea.length : Int) = (eb.length : Int))) = false := by simp; omega
      simp only [sZ, initT, optI, splice, reduceIte, reduceCtorEq, Nat.reduceEqDiff, Nat.reduceAdd, Nat.reduceSub, Nat.reduceMul, Nat.reduceLeDiff, Nat.reduceLT, Int.reduceLT, Int.reduceLE, Int.reduceToNat, Int.reduceEq, Int.cast_ofNat_Int, f2, f3, d1, d2]
      refine loop_L (α := Unit) ea.length (fun j _ => [(2, .ptr b2 0), (3, .ptr b3 0), (5, .int .i64 j)]) (fun _ _ => upd (upd s b2 (some (.cells [.int .i64 ka, .sl 1 (ea.map encInt) .no]))) b3 (some (.cells [.int .i64 kb, .sl 1 (eb.map encInt) .no]))) (fun _ _ => k)
        (fun j _ => ∀ i (h : i < ea.length) (h2 : i < eb.length), i < j → ea[i] = eb[i]) () (SExt.refl _) rfl (by (try simp only [TabLe_cons, TabLe_nil, tab_cons, tab_nil, upd_apply, Nat.reduceEqDiff, reduceIte, and_true]); repeat' (first | exact trivial | exact A.le_refl _ | exact le_strip_no _ _ _ | exact A.le_no _ _ _ | exact A.le_empty _ _ _ | refine And.intro ?_ ?_)) (fun i _ _ h => by omega) ?_
      rintro j ⟨⟩ hj hall
      try dsimp only
      simp only [sZ, initT, optI, splice, reduceIte, reduceCtorEq, Nat.reduceEqDiff, Nat.reduceAdd, Nat.reduceSub, Nat.reduceMul, Nat.reduceLeDiff, Nat.reduceLT, Int.reduceLT, Int.reduceLE, Int.reduceToNat, Int.reduceEq, Int.cast_ofNat_Int, f2, f3]
      refine brC_in (fun hlt => ?_) (fun hge => ?_)
      · have hj' : j < ea.length := by have := of_decide_eq_true hlt; omega
        clear hlt
        have hw := wrap_succ hj' (by omega)
        have ga : (ea.map encInt)[j]? = some (encInt ea[j]) := intE.get hj'
        have gb : (eb.map encInt)[j]? = some (encInt eb[j]) := intE.get (by omega)
        simp only [sZ, initT, optI, splice, reduceIte, reduceCtorEq, Nat.reduceEqDiff, Nat.reduceAdd, Nat.reduceSub, Nat.reduceMul, Nat.reduceLeDiff, Nat.reduceLT, Int.reduceLT, Int.reduceLE, Int.reduceToNat, Int.reduceEq, Int.cast_ofNat_Int, f2, f3, ga, gb, get_int]
        refine brC_in (fun hp1 => ?_) (fun hp0 => ?_)
        · have : ea ≠ eb := fun e => by subst e; simp at hp1
          simp only [sZ, initT, optI, splice, reduceIte, reduceCtorEq, Nat.reduceEqDiff, Nat.reduceAdd, Nat.reduceSub, Nat.reduceMul, Nat.reduceLeDiff, Nat.reduceLT, Int.reduceLT, Int.reduceLE, Int.reduceToNat, Int.reduceEq, Int.cast_ofNat_Int, f2, f3]
          refine OutQ.eq (by repeat (first | exact SExt.refl _ | (refine SExt.old ?_ (by first | (simp only [*]; done) | (simp only [upd_none]; assumption) | (simp only [upd_none, *, not_false_eq_true, and_self]; done)) _))) ?_
          unfold sameEv
          rw [decide_eq_false this, Bool.and_false]
        · simp only [sZ, initT, optI, splice, reduceIte, reduceCtorEq, Nat.reduceEqDiff, Nat.reduceAdd, Nat.reduceSub, Nat.reduceMul, Nat.reduceLeDiff, Nat.reduceLT, Int.reduceLT, Int.reduceLE, Int.reduceToNat, Int.reduceEq, Int.cast_ofNat_Int, hw]
          refine next_L hj' () (SExt.refl _) rfl (by (try simp only [TabLe_cons, TabLe_nil, tab_cons, tab_nil, upd_apply, Nat.reduceEqDiff, reduceIte, and_true]); repeat' (first | exact trivial | exact A.le_refl _ | exact le_strip_no _ _ _ | exact A.le_no _ _ _ | exact A.le_empty _ _ _ | refine And.intro ?_ ?_)) fun i h1 h2 h3 => ?_
          by_cases h : i = j
          · subst h; simpa using hp0
          · exact hall i h1 h2 (by omega)
      · have : ea = eb := list_eq_of_get h2 fun i h1 h2 => hall i h1 h2 (by have := of_decide_eq_false hge; omega)
        simp only [sZ, initT, optI, splice, reduceIte, reduceCtorEq, Nat.reduceEqDiff, Nat.reduceAdd, Nat.reduceSub, Nat.reduceMul, Nat.reduceLeDiff, Nat.reduceLT, Int.reduceLT, Int.reduceLE, Int.reduceToNat, Int.reduceEq, Int.cast_ofNat_Int, f2, f3]
        refine OutQ.eq (by repeat (first | exact SExt.refl _ | (refine SExt.old ?_ (by first | (simp only [*]; done) | (simp only [upd_none]; assumption) | (simp only [upd_none, *, not_false_eq_true, and_self]; done)) _))) ?_
        unfold sameEv
        rw [decide_eq_true h1, decide_eq_true this]
        rfl
    · have d2 : (!decide ((ea.length : Int) = (eb.length : Int))) = true := by simp; omega
      have : ea ≠ eb := fun e => h2 (by rw [e])
      simp only [sZ, initT, optI, splice, reduceIte, reduceCtorEq, Nat.reduceEqDiff, Nat.reduceAdd, Nat.reduceSub, Nat.reduceMul, Nat.reduceLeDiff, Nat.reduceLT, Int.reduceLT, Int.reduceLE, Int.reduceToNat, Int.reduceEq, Int.cast_ofNat_Int, f2, f3, d1, d2]
      refine OutQ.eq (by repeat (first | exact SExt.refl _ | (refine SExt.old ?_ (by first | (simp only [*]; done) | (simp only [upd_none]; assumption) | (simp only [upd_none, *, not_false_eq_true, and_self]; done)) _))) ?_
      unfold sameEv
      rw [decide_eq_false this, Bool.and_false]
  · have d1 : (!decide (ka = kb)) = true := by rw [decide_eq_false h1]; rfl
    simp only [sZ, initT, optI, splice, reduceIte, reduceCtorEq, Nat.reduceEqDiff, Nat.reduceAdd, Nat.reduceSub, Nat.reduceMul, Nat.reduceLeDiff, Nat.reduceLT, Int.reduceLT, Int.reduceLE, Int.reduceToNat, Int.reduceEq, Int.cast_ofNat_Int, f2, f3, d1]
    refine OutQ.eq (by repeat (first | exact SExt.refl _ | (refine SExt.old ?_ (by first | (simp only [*]; done) | (simp only [upd_none]; assumption) | (simp only [upd_none, *, not_false_eq_true, and_self]; done)) _))) ?_
    unfold sameEv
    rw [decide_eq_false h1, Bool.false_and]
theorem spec_node31 (i n : ByteArray) {s : Nat → Option Blk} {k : Nat → Tk} : Spec prg 27 [.str i, .str n] s k (.agg (encObj ⟨i, 1, 0, 0, [], if n = ⟨#[]⟩ then [] else [⟨⟨#[110, 97, 109, 101]⟩, n⟩]⟩)) s k := by
  refine spec_tr prg_mixed tr_plaw31_node (Nat.le_of_ble_eq_true rfl) rfl ?_
  unfold pc_plaw31_node rs_plaw31_node
  by_cases h : n = ⟨#[]⟩
  · rw [if_pos h]
    have hd : (!decide (n = ⟨#[]⟩)) = false := by rw [decide_eq_true h]; rfl
    simp only [sZ, initT, optI, splice, reduceIte, reduceCtorEq, Nat.reduceEqDiff, Nat.reduceAdd, Nat.reduceSub, Nat.reduceMul, Nat.reduceLeDiff, Nat.reduceLT, Int.reduceLT, Int.reduceLE, Int.reduceToNat, Int.reduceEq, Int.cast_ofNat_Int]
    (with_reducible refine newS_in ?_); intro b4 f4; simp only [upd_none] at f4
    simp only [sZ, initT, optI, splice, reduceIte, reduceCtorEq, Nat.reduceEqDiff, Nat.reduceAdd, Nat.reduceSub, Nat.reduceMul, Nat.reduceLeDiff, Nat.reduceLT, Int.reduceLT, Int.reduceLE, Int.reduceToNat, Int.reduceEq, Int.cast_ofNat_Int, f4]
    (with_reducible refine newS_in ?_); intro b5 f5; simp only [upd_none] at f5
    simp only [sZ, initT, optI, splice, reduceIte, reduceCtorEq, Nat.reduceEqDiff, Nat.reduceAdd, Nat.reduceSub, Nat.reduceMul, Nat.reduceLeDiff, Nat.reduceLT, Int.reduceLT, Int.reduceLE, Int.reduceToNat, Int.reduceEq, Int.cast_ofNat_Int, f4, f5, hd]
    exact OutQ.le (by repeat (first | exact SExt.refl _ | (refine SExt.old ?_ (by first | (simp only [*]; done) | (simp only [upd_none]; assumption) | (simp only [upd_none, *, not_false_eq_true, and_self]; done)) _))) (A.le_agg (.cons (A.le_refl _) (.cons (A.le_refl _) (.cons (A.le_refl _) (.cons (A.le_refl _) (.cons (A.le_empty _ _ _) (.cons (A.le_empty _ _ _) .nil)))))))
  · rw [if_neg h]
    have hd : (!decide (n = ⟨#[]⟩)) = true := by rw [decide_eq_false h]; rfl
    simp only [sZ, initT, optI, splice, reduceIte, reduceCtorEq, Nat.reduceEqDiff, Nat.reduceAdd, Nat.reduceSub, Nat.reduceMul, Nat.reduceLeDiff, Nat.reduceLT, Int.reduceLT, Int.reduceLE, Int.reduceToNat, Int.reduceEq, Int.cast_ofNat_Int]
    (with_reducible refine newS_in ?_); intro b4 f4; simp only [upd_none] at f4
    simp only [sZ, initT, optI, splice, reduceIte, reduceCtorEq, Nat.reduceEqDiff, Nat.reduceAdd, Nat.reduceSub, Nat.reduceMul, Nat.reduceLeDiff, Nat.reduceLT, Int.reduceLT, Int.reduceLE, Int.reduceToNat, Int.reduceEq, Int.cast_ofNat_Int, f4]
    (with_reducible refine newS_in ?_); intro b5 f5; simp only [upd_none] at f5
    simp only [sZ, initT, optI, splice, reduceIte, reduceCtorEq, Nat.reduceEqDiff, Nat.reduceAdd, Nat.reduceSub, Nat.reduceMul, Nat.reduceLeDiff, Nat.reduceLT, Int.reduceLT, Int.reduceLE, Int.reduceToNat, Int.reduceEq, Int.cast_ofNat_Int, f4, f5, hd]
    exact OutQ.le (by repeat (first | exact SExt.refl _ | (refine SExt.old ?_ (by first | (simp only [*]; done) | (simp only [upd_none]; assumption) | (simp only [upd_none, *, not_false_eq_true, and_self]; done)) _))) (A.le_agg (.cons (A.le_refl _) (.cons (A.le_refl _) (.cons (A.le_refl _) (.cons (A.le_refl _) (.cons (A.le_empty _ _ _) (.cons (A.le_no _ _ _) .nil)))))))
theorem spec_head1 (i : ByteArray) {s : Nat → Option Blk} {k : Nat → Tk} : Spec prg 28 [.str i] s k (.agg (encEdit ⟨3, i, ⟨#[]⟩, ⟨#[]⟩, 0, 0, ⟨#[110, 97, 109, 101]⟩, ⟨#[]⟩, [], zeroObj⟩)) s k := by
  refine spec_tr prg_mixed tr_plaw31_head_1 (Nat.le_of_ble_eq_true rfl) rfl ?_
  unfold pc_plaw31_head_1 rs_plaw31_head_1
  simp only [sZ, initT, optI, splice, reduceIte, reduceCtorEq, Nat.reduceEqDiff, Nat.reduceAdd, Nat.reduceSub, Nat.reduceMul, Nat.reduceLeDiff, Nat.reduceLT, Int.reduceLT, Int.reduceLE, Int.reduceToNat, Int.reduceEq, Int.cast_ofNat_Int]
  (with_reducible refine newS_in ?_); intro b2 f2; simp only [upd_none] at f2
  simp only [sZ, initT, optI, splice, reduceIte, reduceCtorEq, Nat.reduceEqDiff, Nat.reduceAdd, Nat.reduceSub, Nat.reduceMul, Nat.reduceLeDiff, Nat.reduceLT, Int.reduceLT, Int.reduceLE, Int.reduceToNat, Int.reduceEq, Int.cast_ofNat_Int, f2]
  exact OutQ.le (by repeat (first | exact SExt.refl _ | (refine SExt.old ?_ (by first | (simp only [*]; done) | (simp only [upd_none]; assumption) | (simp only [upd_none, *, not_false_eq_true, and_self]; done)) _))) (A.le_agg (by repeat (first | exact A.lel.nil | refine A.lel.cons (by first | exact A.le_refl _ | exact A.le_empty _ _ _ | exact A.le_no _ _ _) ?_)))
def few31 (m : List Obj) (l : List Edit) : Bool := (!decide ((24 : Int) < m.length) && m.all fewM) && (!decide ((20 : Int) < l.length) && l.all fewE)
theorem spec_few31 (m : List Obj) (l : List Edit) {s : Nat → Option Blk} {k : Nat → Tk} : Spec prg 11 [.agg (encMap m), .sl 15 (l.map encEdit) .no] s k (.bool (few31 m l)) s k := by
  refine spec_tr prg_mixed tr_plaw31_few (Nat.le_of_ble_eq_true rfl) rfl ?_
  unfold pc_plaw31_few rs_plaw31_few
  have h14 := fun s k => @spec14 m 24 (by decide) s k
  have h10 := fun s k => @spec10 l 20 (by decide) s k
  have ho : few31 m l = ((!decide ((24 : Int) < m.length) && m.all fewM) && (!decide ((20 : Int) < l.length) && l.all fewE)) := rfl
  simp only [encMap] at h14
  generalize (!decide ((24 : Int) < m.length) && m.all fewM) = a at *
  generalize (!decide ((20 : Int) < l.length) && l.all fewE) = b at *
  simp only [sZ, initT, optI, splice, reduceIte, reduceCtorEq, Nat.reduceEqDiff, Nat.reduceAdd, Nat.reduceSub, Nat.reduceMul, Nat.reduceLeDiff, Nat.reduceLT, Int.reduceLT, Int.reduceLE, Int.reduceToNat, Int.reduceEq, Int.cast_ofNat_Int, encMap]
  (with_reducible refine newS_in ?_); intro b2 f2; simp only [upd_none] at f2
  simp only [sZ, initT, optI, splice, reduceIte, reduceCtorEq, Nat.reduceEqDiff, Nat.reduceAdd, Nat.reduceSub, Nat.reduceMul, Nat.reduceLeDiff, Nat.reduceLT, Int.reduceLT, Int.reduceLE, Int.reduceToNat, Int.reduceEq, Int.cast_ofNat_Int, f2]
  refine callS_quiet (h14 _ _) ?_
  repeat' (first | (refine callS_quiet (h10 _ _) ?_) | (first | (with_reducible refine newS_in ?_; intro _ hid_; simp only [upd_none] at hid_) | (with_reducible refine newR_in ?_; intro _ hid_ hih_; simp only [upd_none, upd_none', rr_eqs2, and_true] at hid_ hih_) | (with_reducible refine mkmS_in ?_; intro _ hid_; simp only [upd_none] at hid_)) | (with_reducible refine brC_in (fun h_ => ?_) (fun h_ => ?_)) | (with_reducible refine brG_in (fun h_ => ?_) (fun h_ => ?_)) | (with_reducible refine brN_in (fun h_ => ?_) (fun h_ => ?_)) | simp only [sZ, initT, optI, splice, reduceIte, reduceCtorEq, Nat.reduceEqDiff, Nat.reduceAdd, Nat.reduceSub, Nat.reduceMul, Nat.reduceLeDiff, Nat.reduceLT, Int.reduceLT, Int.reduceLE, Int.reduceToNat, Int.reduceEq, Int.cast_ofNat_Int, *, f2, -h14, -h10, -ho])
  all_goals refine OutQ.eq (by repeat (first | exact SExt.refl _ | (refine SExt.old ?_ (by first | (simp only [*]; done) | (simp only [upd_none]; assumption) | (simp only [upd_none, *, not_false_eq_true, and_self]; done)) _))) ?_
  all_goals rw [ho]
  all_goals clear ho h14 h10
  all_goals simp_all only [Bool.not_eq_true', Bool.not_eq_false', Bool.not_not, Bool.not_true, Bool.not_false, Bool.and_true, Bool.true_and, Bool.and_false, Bool.false_and, Bool.or_true, Bool.true_or, Bool.or_false, Bool.false_or]
structure TagSm (t : Tag) : Prop where
  key : t.key.size ≤ 140737488351232
  val : t.val.size ≤ 140737488351232
def ObjSm (o : Obj) : Prop := ∀ t ∈ o.tags, TagSm t
theorem short_fit {n : Int} {t : Tag} (hn : n ≤ 1000) (h : shortT n t = true) (hs : TagSm t) : t.key.size ≤ 1000 ∧ t.val.size ≤ 1000 := by
  obtain ⟨h1, h2⟩ := hs
  unfold shortT at h
  rw [wrap64 (by omega) (by omega)] at h
  simp at h
  omega
theorem fit_M {o : Obj} (h : fewM o = true) (hs : ObjSm o) : ObjFit o := by
  simp only [fewM, Bool.and_eq_true, Bool.not_eq_true', decide_eq_false_iff_not, List.all_eq_true, shortS] at h
  obtain ⟨⟨⟨⟨a1, a2⟩, a3⟩, a4⟩, a5⟩ := h
  refine ⟨by omega, by omega, fun r hr => ?_, by omega, fun t ht => ?_⟩
  · have := a4 r hr; omega
  · have := short_fit (by decide) (a5 t ht) (hs t ht); exact ⟨by omega, by omega⟩
theorem fit_E {e : Edit} (h : fewE e = true) (hs : ObjSm e.obj) : EditFit e := by
  simp only [fewE, fewO, Bool.and_eq_true, Bool.not_eq_true', decide_eq_false_iff_not, List.all_eq_true, shortS] at h
  obtain ⟨⟨⟨⟨⟨⟨⟨⟨a1, a2⟩, a3⟩, a4⟩, a5⟩, a6⟩, ⟨⟨⟨b1, b2⟩, b3⟩, b4⟩, b5⟩, c1⟩, c2⟩ := h
  refine ⟨by omega, by omega, by omega, by omega, by omega, by omega, fun r hr => by have := c2 r hr; omega, ⟨by omega, by omega, fun r hr => by have := b4 r hr; omega, by omega, fun t ht => ?_⟩⟩
  have := short_fit (by decide) (b5 t ht) (hs t ht); exact ⟨by omega, by omega⟩
theorem few31_fit {m : List Obj} {l : List Edit} (h : few31 m l = true) (hm : ∀ o ∈ m, ObjSm o) (hl : ∀ e ∈ l, ObjSm e.obj) : m.length ≤ 24 ∧ l.length ≤ 20 ∧ MapFit m ∧ ∀ e ∈ l, EditFit e := by
  simp only [few31, Bool.and_eq_true, Bool.not_eq_true', decide_eq_false_iff_not, List.all_eq_true] at h
  obtain ⟨⟨h1, h2⟩, h3, h4⟩ := h
  exact ⟨by omega, by omega, ⟨by omega, fun o ho => fit_M (h2 o ho) (hm o ho)⟩, fun e he => fit_E (h4 e he) (hl e he)⟩
end Go.Pv
