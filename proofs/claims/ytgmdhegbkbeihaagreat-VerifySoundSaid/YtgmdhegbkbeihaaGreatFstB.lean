/- EvidenceFirst: the law returns true. -/
import Derived.Test.YtgmdhegbkbeihaaGreatFstP
import Derived.Test.YtgmdhegbkbeihaaGreatEvY
set_option linter.unusedVariables false
set_option linter.unusedSimpArgs false
set_option maxRecDepth 4000
set_option maxHeartbeats 4000000
namespace Go.Pv
open Go

theorem behindF_drop : ∀ (a b : List Int) (j : Nat), j ≤ a.length → j ≤ b.length → (∀ i (h1 : i < a.length) (h2 : i < b.length), i < j → a[i] = b[i]) → behindF a b = behindF (a.drop j) (b.drop j)
  | a, b, 0, _, _, _ => by simp
  | x :: a, y :: b, j + 1, h1, h2, h => by
    have h0 := h 0 (by simp) (by simp) (by omega)
    simp only [List.getElem_cons_zero] at h0
    simp only [behindF, List.drop_succ_cons]
    rw [if_pos h0]
    exact behindF_drop a b j (by simpa using h1) (by simpa using h2) fun i g1 g2 g3 => by
      have := h (i + 1) (by simpa using g1) (by simpa using g2) (by omega)
      simpa using this
  | [], b, j + 1, h1, _, _ => by simp at h1
  | x :: a, [], j + 1, _, h2, _ => by simp at h2
theorem spec_behind (a b : List Int) (ha : a.length < 70000) (hb : b.length < 70000) {s : Nat → Option Blk} {k : Nat → Tk} : Spec prg 18 [.sl 1 (a.map encInt) .no, .sl 1 (b.map encInt) .no] s k (.bool (behindF a b)) s k := by
  refine spec_tr prg_mixed tr_plaw31_behind (Nat.le_of_ble_eq_true rfl) rfl ?_
  unfold pc_plaw31_behind rs_plaw31_behind
  simp only [sZ, initT, optI, splice, reduceIte, reduceCtorEq, Nat.reduceEqDiff, Nat.reduceAdd, Nat.reduceSub, Nat.reduceMul, Nat.reduceLeDiff, Nat.reduceLT, Int.reduceLT, Int.reduceLE, Int.reduceToNat, Int.reduceEq, Int.cast_ofNat_Int]
  refine loop_L (α := Unit) (min a.length b.length) (fun j _ => [(0, .sl 1 (a.map encInt) .no), (1, .sl 1 (b.map encInt) .no), (5, .int .i64 j)]) (fun _ _ => s) (fun _ _ => k) (fun j _ => ∀ i (h1 : i < a.length) (h2 : i < b.length), i < j → a[i] = b[i]) () (SExt.refl _) rfl (by (try simp only [TabLe_cons, TabLe_nil, tab_cons, tab_nil, upd_apply, Nat.reduceEqDiff, reduceIte, and_true]); repeat' (first | exact trivial | exact A.le_refl _ | exact le_strip_no _ _ _ | exact A.le_no _ _ _ | exact A.le_empty _ _ _ | refine And.intro ?_ ?_)) (fun i _ _ h => by omega) ?_
  rintro j ⟨⟩ hj hall
  try dsimp only
  have hdr := behindF_drop a b j (by omega) (by omega) hall
  by_cases c : j < a.length ∧ j < b.length
  · have c1 : decide ((j : Int) < (a.length : Int)) = true := decide_eq_true (by omega)
    have c2 : decide ((j : Int) < (b.length : Int)) = true := decide_eq_true (by omega)
    have ga : (a.map encInt)[j]? = some (encInt a[j]) := intE.get c.1
    have gb : (b.map encInt)[j]? = some (encInt b[j]) := intE.get c.2
    have p1 : (0 : Int) ≤ j := by omega
    have p2 : (j : Int) < a.length := by omega
    have p3 : (j : Int) < b.length := by omega
    have hw : IntKind.i64.wrap ((j : Int) + 1) = ((j + 1 : Nat) : Int) := wrap64 (by omega) (by omega)
    simp only [sZ, initT, optI, splice, reduceIte, reduceCtorEq, Nat.reduceEqDiff, Nat.reduceAdd, Nat.reduceSub, Nat.reduceMul, Nat.reduceLeDiff, Nat.reduceLT, Int.reduceLT, Int.reduceLE, Int.reduceToNat, Int.reduceEq, Int.cast_ofNat_Int, c1, c2, p1, p2, p3, Int.toNat_natCast, ga, gb, get_int]
    refine brC_in (fun h1 => ?_) (fun h1 => ?_)
    · have hne : a[j] ≠ b[j] := by simpa using h1
      rw [hdr, List.drop_eq_getElem_cons c.1, List.drop_eq_getElem_cons c.2]
      simp only [behindF]
      rw [if_neg hne]
      simp only [sZ, initT, optI, splice, reduceIte, reduceCtorEq, Nat.reduceEqDiff, Nat.reduceAdd, Nat.reduceSub, Nat.reduceMul, Nat.reduceLeDiff, Nat.reduceLT, Int.reduceLT, Int.reduceLE, Int.reduceToNat, Int.reduceEq, Int.cast_ofNat_Int, c1, c2, p1, p2, p3, Int.toNat_natCast, ga, gb, get_int]
      refine OutQ.eq (by repeat (first | exact SExt.refl _ | (refine SExt.old ?_ (by first | (simp only [*]; done) | (simp only [upd_none]; assumption) | (simp only [upd_none, *, not_false_eq_true, and_self]; done)) _))) rfl
    · have heq : a[j] = b[j] := by simpa using h1
      simp only [sZ, initT, optI, splice, reduceIte, reduceCtorEq, Nat.reduceEqDiff, Nat.reduceAdd, Nat.reduceSub, Nat.reduceMul, Nat.reduceLeDiff, Nat.reduceLT, Int.reduceLT, Int.reduceLE, Int.reduceToNat, Int.reduceEq, Int.cast_ofNat_Int, hw]
      refine next_L (by omega) () (SExt.refl _) rfl (by (try simp only [TabLe_cons, TabLe_nil, tab_cons, tab_nil, upd_apply, Nat.reduceEqDiff, reduceIte, and_true]); repeat' (first | exact trivial | exact A.le_refl _ | exact le_strip_no _ _ _ | exact A.le_no _ _ _ | exact A.le_empty _ _ _ | refine And.intro ?_ ?_)) fun i g1 g2 g3 => ?_
      by_cases e : i = j
      · subst e; exact heq
      · exact hall i g1 g2 (by omega)
  · have hend : behindF a b = decide ((b.length : Int) < (a.length : Int)) := by
      rw [hdr]
      by_cases c1 : j < a.length
      · have hb0 : b.drop j = [] := List.drop_of_length_le (by omega)
        rw [hb0, List.drop_eq_getElem_cons c1, decide_eq_true (by omega)]
        rfl
      · have ha0 : a.drop j = [] := List.drop_of_length_le (by omega)
        rw [ha0, decide_eq_false (by omega)]
        rfl
    rw [hend]
    by_cases c1 : j < a.length
    · have d1 : decide ((j : Int) < (a.length : Int)) = true := decide_eq_true (by omega)
      have d2 : decide ((j : Int) < (b.length : Int)) = false := decide_eq_false (by omega)
      simp only [sZ, initT, optI, splice, reduceIte, reduceCtorEq, Nat.reduceEqDiff, Nat.reduceAdd, Nat.reduceSub, Nat.reduceMul, Nat.reduceLeDiff, Nat.reduceLT, Int.reduceLT, Int.reduceLE, Int.reduceToNat, Int.reduceEq, Int.cast_ofNat_Int, d1, d2]
      refine OutQ.eq (by repeat (first | exact SExt.refl _ | (refine SExt.old ?_ (by first | (simp only [*]; done) | (simp only [upd_none]; assumption) | (simp only [upd_none, *, not_false_eq_true, and_self]; done)) _))) rfl
    · have d1 : decide ((j : Int) < (a.length : Int)) = false := decide_eq_false (by omega)
      simp only [sZ, initT, optI, splice, reduceIte, reduceCtorEq, Nat.reduceEqDiff, Nat.reduceAdd, Nat.reduceSub, Nat.reduceMul, Nat.reduceLeDiff, Nat.reduceLT, Int.reduceLT, Int.reduceLE, Int.reduceToNat, Int.reduceEq, Int.cast_ofNat_Int, d1]
      refine OutQ.eq (by repeat (first | exact SExt.refl _ | (refine SExt.old ?_ (by first | (simp only [*]; done) | (simp only [upd_none]; assumption) | (simp only [upd_none, *, not_false_eq_true, and_self]; done)) _))) rfl
theorem spec_firstLaw (m : List Obj) (l : List Edit) (e : Evid) (hm : ∀ o ∈ m, ObjSm o) (hl : ∀ e ∈ l, ObjSm e.obj) {s : Nat → Option Blk} {k : Nat → Tk} : Spec prg 5 [.agg (encMap m), .sl 15 (l.map encEdit) .no, .agg (encEvid e)] s k (.bool true) s k := by
  refine spec_tr prg_mixed tr_plaw31_EvidenceFirst (Nat.le_of_ble_eq_true rfl) rfl ?_
  unfold pc_plaw31_EvidenceFirst rs_plaw31_EvidenceFirst
  have hfew := fun s k => @spec_few31 m l s k
  obtain ⟨κ, es⟩ := e
  simp only [encMap] at hfew
  simp only [sZ, initT, optI, splice, reduceIte, reduceCtorEq, Nat.reduceEqDiff, Nat.reduceAdd, Nat.reduceSub, Nat.reduceMul, Nat.reduceLeDiff, Nat.reduceLT, Int.reduceLT, Int.reduceLE, Int.reduceToNat, Int.reduceEq, Int.cast_ofNat_Int, encMap, encEvid]
  (with_reducible refine newS_in ?_); intro b3 f3; simp only [upd_none] at f3
  simp only [sZ, initT, optI, splice, reduceIte, reduceCtorEq, Nat.reduceEqDiff, Nat.reduceAdd, Nat.reduceSub, Nat.reduceMul, Nat.reduceLeDiff, Nat.reduceLT, Int.reduceLT, Int.reduceLE, Int.reduceToNat, Int.reduceEq, Int.cast_ofNat_Int, f3]
  (with_reducible refine newS_in ?_); intro b5 f5; simp only [upd_none] at f5
  simp only [sZ, initT, optI, splice, reduceIte, reduceCtorEq, Nat.reduceEqDiff, Nat.reduceAdd, Nat.reduceSub, Nat.reduceMul, Nat.reduceLeDiff, Nat.reduceLT, Int.reduceLT, Int.reduceLE, Int.reduceToNat, Int.reduceEq, Int.cast_ofNat_Int, f3, f5]
  refine callS_quiet spec_head31 ?_
  simp only [sZ, initT, optI, splice, reduceIte, reduceCtorEq, Nat.reduceEqDiff, Nat.reduceAdd, Nat.reduceSub, Nat.reduceMul, Nat.reduceLeDiff, Nat.reduceLT, Int.reduceLT, Int.reduceLE, Int.reduceToNat, Int.reduceEq, Int.cast_ofNat_Int, f3, f5]
  refine callS_quiet (hfew _ _) ?_
  cases hfw : few31 m l
  · simp only [sZ, initT, optI, splice, reduceIte, reduceCtorEq, Nat.reduceEqDiff, Nat.reduceAdd, Nat.reduceSub, Nat.reduceMul, Nat.reduceLeDiff, Nat.reduceLT, Int.reduceLT, Int.reduceLE, Int.reduceToNat, Int.reduceEq, Int.cast_ofNat_Int, f3, f5, Bool.not_false]
    refine OutQ.eq (by repeat (first | exact SExt.refl _ | (refine SExt.old ?_ (by first | (simp only [*]; done) | (simp only [upd_none]; assumption) | (simp only [upd_none, *, not_false_eq_true, and_self]; done)) _))) rfl
  obtain ⟨n1, n2, hmf, hlf⟩ := few31_fit hfw hm hl
  have hF := fun s k => @spec_Find m l hmf (by omega) hlf s k
  have hC := fun s k => @spec_closed m hmf s k
  have hV := fun s k => @spec_change l (by omega) hlf s k
  have hlen := findF_len m l
  simp only [encMap] at hF hC
  by_cases c20 : 20 < es.length
  · have d20 : decide ((20 : Int) < (es.length : Int)) = true := decide_eq_true (by omega)
    simp only [sZ, initT, optI, splice, reduceIte, reduceCtorEq, Nat.reduceEqDiff, Nat.reduceAdd, Nat.reduceSub, Nat.reduceMul, Nat.reduceLeDiff, Nat.reduceLT, Int.reduceLT, Int.reduceLE, Int.reduceToNat, Int.reduceEq, Int.cast_ofNat_Int, f3, f5, Bool.not_true, d20]
    refine OutQ.eq (by repeat (first | exact SExt.refl _ | (refine SExt.old ?_ (by first | (simp only [*]; done) | (simp only [upd_none]; assumption) | (simp only [upd_none, *, not_false_eq_true, and_self]; done)) _))) rfl
  have d20 : decide ((20 : Int) < (es.length : Int)) = false := decide_eq_false (by omega)
  have hH := fun s k => @spec_holds m l ⟨κ, es⟩ hmf (by omega) (fun e he => (hlf e he).obj.tags) (by dsimp only; omega) s k
  have hB := fun s k => @spec_behind (findF m l).edits es (by omega) (by omega) s k
  simp only [encMap, encEvid] at hH
  clear hfew hfw hm hl
  simp only [sZ, initT, optI, splice, reduceIte, reduceCtorEq, Nat.reduceEqDiff, Nat.reduceAdd, Nat.reduceSub, Nat.reduceMul, Nat.reduceLeDiff, Nat.reduceLT, Int.reduceLT, Int.reduceLE, Int.reduceToNat, Int.reduceEq, Int.cast_ofNat_Int, f3, f5, Bool.not_true, d20]
  refine callS_quiet (hC _ _) ?_
  cases hcc : closedF m
  · simp only [sZ, initT, optI, splice, reduceIte, reduceCtorEq, Nat.reduceEqDiff, Nat.reduceAdd, Nat.reduceSub, Nat.reduceMul, Nat.reduceLeDiff, Nat.reduceLT, Int.reduceLT, Int.reduceLE, Int.reduceToNat, Int.reduceEq, Int.cast_ofNat_Int, f3, f5, Bool.not_false]
    refine OutQ.eq (by repeat (first | exact SExt.refl _ | (refine SExt.old ?_ (by first | (simp only [*]; done) | (simp only [upd_none]; assumption) | (simp only [upd_none, *, not_false_eq_true, and_self]; done)) _))) rfl
  simp only [sZ, initT, optI, splice, reduceIte, reduceCtorEq, Nat.reduceEqDiff, Nat.reduceAdd, Nat.reduceSub, Nat.reduceMul, Nat.reduceLeDiff, Nat.reduceLT, Int.reduceLT, Int.reduceLE, Int.reduceToNat, Int.reduceEq, Int.cast_ofNat_Int, f3, f5, Bool.not_true]
  refine callS_quiet (hV _ _) ?_
  cases hcv : changeV l
  · simp only [sZ, initT, optI, splice, reduceIte, reduceCtorEq, Nat.reduceEqDiff, Nat.reduceAdd, Nat.reduceSub, Nat.reduceMul, Nat.reduceLeDiff, Nat.reduceLT, Int.reduceLT, Int.reduceLE, Int.reduceToNat, Int.reduceEq, Int.cast_ofNat_Int, f3, f5, Bool.not_false]
    refine OutQ.eq (by repeat (first | exact SExt.refl _ | (refine SExt.old ?_ (by first | (simp only [*]; done) | (simp only [upd_none]; assumption) | (simp only [upd_none, *, not_false_eq_true, and_self]; done)) _))) rfl
  simp only [sZ, initT, optI, splice, reduceIte, reduceCtorEq, Nat.reduceEqDiff, Nat.reduceAdd, Nat.reduceSub, Nat.reduceMul, Nat.reduceLeDiff, Nat.reduceLT, Int.reduceLT, Int.reduceLE, Int.reduceToNat, Int.reduceEq, Int.cast_ofNat_Int, f3, f5, Bool.not_true]
  refine callS_quiet (hH _ _) ?_
  cases hh : holdsF m l ⟨κ, es⟩
  · simp only [sZ, initT, optI, splice, reduceIte, reduceCtorEq, Nat.reduceEqDiff, Nat.reduceAdd, Nat.reduceSub, Nat.reduceMul, Nat.reduceLeDiff, Nat.reduceLT, Int.reduceLT, Int.reduceLE, Int.reduceToNat, Int.reduceEq, Int.cast_ofNat_Int, f3, f5, Bool.not_false]
    refine OutQ.eq (by repeat (first | exact SExt.refl _ | (refine SExt.old ?_ (by first | (simp only [*]; done) | (simp only [upd_none]; assumption) | (simp only [upd_none, *, not_false_eq_true, and_self]; done)) _))) rfl
  simp only [sZ, initT, optI, splice, reduceIte, reduceCtorEq, Nat.reduceEqDiff, Nat.reduceAdd, Nat.reduceSub, Nat.reduceMul, Nat.reduceLeDiff, Nat.reduceLT, Int.reduceLT, Int.reduceLE, Int.reduceToNat, Int.reduceEq, Int.cast_ofNat_Int, f3, f5, Bool.not_true]
  refine callS_quiet (hF _ _) ?_
  have hfe : findF m l = findE m l := by unfold findF; rw [if_pos ⟨hcc, hcv⟩]
  obtain ⟨g1, g2, g3⟩ := find_first hh
  rw [← hfe] at g1 g2 g3
  dsimp only at g2 g3
  clear hfe hh hF hC hV hH
  generalize findF m l = x at *
  obtain ⟨kx, ex⟩ := x
  dsimp only at g1 g2 g3 hB
  have d0 : (!decide (kx = 0)) = true := by rw [decide_eq_false g1]; rfl
  have d1 : decide (kx ≤ κ) = true := decide_eq_true g2
  by_cases c : kx < κ
  · have d2 := decide_eq_true c
    simp only [sZ, initT, optI, splice, reduceIte, reduceCtorEq, Nat.reduceEqDiff, Nat.reduceAdd, Nat.reduceSub, Nat.reduceMul, Nat.reduceLeDiff, Nat.reduceLT, Int.reduceLT, Int.reduceLE, Int.reduceToNat, Int.reduceEq, Int.cast_ofNat_Int, f3, f5, encEvid]
    (with_reducible refine newS_in ?_); intro b8 f8; simp only [upd_none] at f8
    simp only [sZ, initT, optI, splice, reduceIte, reduceCtorEq, Nat.reduceEqDiff, Nat.reduceAdd, Nat.reduceSub, Nat.reduceMul, Nat.reduceLeDiff, Nat.reduceLT, Int.reduceLT, Int.reduceLE, Int.reduceToNat, Int.reduceEq, Int.cast_ofNat_Int, f3, f5, f8, d0, d1, d2]
    refine OutQ.eq (by repeat (first | exact SExt.refl _ | (refine SExt.old ?_ (by first | (simp only [*]; done) | (simp only [upd_none]; assumption) | (simp only [upd_none, *, not_false_eq_true, and_self]; done)) _))) rfl
  · have d2 := decide_eq_false c
    rw [g3 (by omega)] at hB
    simp only [sZ, initT, optI, splice, reduceIte, reduceCtorEq, Nat.reduceEqDiff, Nat.reduceAdd, Nat.reduceSub, Nat.reduceMul, Nat.reduceLeDiff, Nat.reduceLT, Int.reduceLT, Int.reduceLE, Int.reduceToNat, Int.reduceEq, Int.cast_ofNat_Int, f3, f5, encEvid]
    (with_reducible refine newS_in ?_); intro b8 f8; simp only [upd_none] at f8
    simp only [sZ, initT, optI, splice, reduceIte, reduceCtorEq, Nat.reduceEqDiff, Nat.reduceAdd, Nat.reduceSub, Nat.reduceMul, Nat.reduceLeDiff, Nat.reduceLT, Int.reduceLT, Int.reduceLE, Int.reduceToNat, Int.reduceEq, Int.cast_ofNat_Int, f3, f5, f8, d0, d1, d2]
    refine callS_quiet (hB _ _) ?_
    simp only [sZ, initT, optI, splice, reduceIte, reduceCtorEq, Nat.reduceEqDiff, Nat.reduceAdd, Nat.reduceSub, Nat.reduceMul, Nat.reduceLeDiff, Nat.reduceLT, Int.reduceLT, Int.reduceLE, Int.reduceToNat, Int.reduceEq, Int.cast_ofNat_Int, f3, f5, f8, Bool.not_false]
    refine OutQ.eq (by repeat (first | exact SExt.refl _ | (refine SExt.old ?_ (by first | (simp only [*]; done) | (simp only [upd_none]; assumption) | (simp only [upd_none, *, not_false_eq_true, and_self]; done)) _))) rfl
end Go.Pv
