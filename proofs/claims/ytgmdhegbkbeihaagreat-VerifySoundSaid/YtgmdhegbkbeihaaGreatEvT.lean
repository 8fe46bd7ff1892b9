/- Whether evidence holds. -/
import Derived.Test.YtgmdhegbkbeihaaGreatEvR
set_option linter.unusedVariables false
set_option linter.unusedSimpArgs false
set_option maxRecDepth 4000
set_option maxHeartbeats 4000000
namespace Go.Pv
open Go

def alikeX (l : List Edit) (es : List Int) (x : Int) : Bool :=
  (decide ((atE l x.toNat).obj.x = (atE l (es.getD 0 0).toNat).obj.x) && decide ((atE l x.toNat).obj.y = (atE l (es.getD 0 0).toNat).obj.y)) && decide ((atE l x.toNat).obj.tags = (atE l (es.getD 0 0).toNat).obj.tags)
def okX (m : List Obj) (l : List Edit) (kind : Int) (es : List Int) (i : Nat) (x : Int) : Bool :=
  decide (0 ≤ x) && (decide (x < l.length) && ((decide (i = 0) || decide (es.getD (i - 1) 0 < x)) && (showE m kind (atE l x.toNat) && (!decide (kind = 4) || alikeX l es x))))
def okI (m : List Obj) (l : List Edit) (kind : Int) (es : List Int) (i : Nat) : Bool := okX m l kind es i (es.getD i 0)
def keyI (l : List Edit) (kind : Int) (x : Int) : ByteArray := if kind = 4 then (atE l x.toNat).obj.id else (atE l x.toNat).id
def idsL (l : List Edit) (kind : Int) (es : List Int) : List (ByteArray × Bool) := seenM (es.map (keyI l kind)) []
def holdsF (m : List Obj) (l : List Edit) (e : Evid) : Bool :=
  (decide (1 ≤ e.kind) && decide (e.kind ≤ 4)) && (decide (e.edits.length = manyE e.kind) && (!(decide (e.kind = 1) && decide (2 * dropsF l ≤ l.length)) && ((List.range e.edits.length).all (okI m l e.kind e.edits) && decide ((idsL l e.kind e.edits).length = e.edits.length))))
theorem idsL_take (l : List Edit) (kind : Int) (es : List Int) {i : Nat} (h : i < es.length) : idsL l kind (es.take (i + 1)) = setM (keyI l kind es[i]) true (idsL l kind (es.take i)) := by
  unfold idsL
  rw [List.map_take, List.map_take]
  have := seenM_take (es.map (keyI l kind)) [] (j := i) (by simpa using h)
  rw [this, List.getElem_map]
theorem holds_no {m : List Obj} {l : List Edit} {kind : Int} {es : List Int} {i : Nat} (hi : i < es.length) (h : okI m l kind es i = false) : holdsF m l ⟨kind, es⟩ = false := by
  have : (List.range es.length).all (okI m l kind es) = false := by
    rw [List.all_eq_false]
    exact ⟨i, List.mem_range.2 hi, by rw [h]; simp⟩
  unfold holdsF
  dsimp only
  rw [this]
  simp
theorem many_row {kind : Int} (h1 : 1 ≤ kind) (h4 : kind ≤ 4) : ([[A.int .i64 0], [.int .i64 5], [.int .i64 3], [.int .i64 3], [.int .i64 4]] : List (List A))[kind.toNat]? = some [.int .i64 (manyE kind : Nat)] := by
  have : kind = 1 ∨ kind = 2 ∨ kind = 3 ∨ kind = 4 := by omega
  rcases this with rfl | rfl | rfl | rfl <;> rfl
theorem seenM_len_le : ∀ (l : List ByteArray) (m : List (ByteArray × Bool)), (seenM l m).length ≤ l.length + m.length
  | [], m => by simp [seenM]
  | x :: l, m => by
    have h := seenM_len_le l (setM x true m)
    have h2 : ∀ m : List (ByteArray × Bool), (setM x true m).length ≤ m.length + 1 := by
      intro m
      induction m with
      | nil => simp [setM]
      | cons p m ih =>
        simp only [setM]
        split
        · simp
        · simp only [List.length_cons]; omega
    have := h2 m
    simp only [seenM, List.length_cons]
    omega
theorem SExt.over {s s' : Hp} {id : Nat} (x : Option Blk) (h : SExt s s') : SExt (upd s id x) (upd s' id x) := fun i hi => by
  by_cases e : i = id
  · subst e; rw [upd_same, upd_same]
  · rw [upd_other _ _ _ _ e] at hi
    rw [upd_other _ _ _ _ e, upd_other _ _ _ _ e]
    exact h i hi
theorem okX_no {m : List Obj} {l : List Edit} {kind : Int} {es : List Int} {i : Nat} {x : Int} (h : x < 0 ∨ (l.length : Int) ≤ x ∨ (i ≠ 0 ∧ x ≤ es.getD (i - 1) 0) ∨ showE m kind (atE l x.toNat) = false ∨ (kind = 4 ∧ alikeX l es x = false)) : okX m l kind es i x = false := by
  unfold okX
  rcases h with h | h | h | h | h
  · rw [decide_eq_false (by omega : ¬ 0 ≤ x), Bool.false_and]
  · rw [decide_eq_false (by omega : ¬ x < l.length), Bool.false_and, Bool.and_false]
  · rw [decide_eq_false h.1, decide_eq_false (by omega : ¬ es.getD (i - 1) 0 < x)]
    simp
  · rw [h]; simp
  · rw [h.2, decide_eq_true h.1]; simp
theorem okX_yes {m : List Obj} {l : List Edit} {kind : Int} {es : List Int} {i : Nat} {x : Int} (h1 : 0 ≤ x) (h2 : x < l.length) (h3 : i = 0 ∨ es.getD (i - 1) 0 < x) (h4 : showE m kind (atE l x.toNat) = true) (h5 : kind ≠ 4 ∨ alikeX l es x = true) : okX m l kind es i x = true := by
  unfold okX
  rw [decide_eq_true h1, decide_eq_true h2, h4]
  have e3 : (decide (i = 0) || decide (es.getD (i - 1) 0 < x)) = true := by
    rcases h3 with h | h
    · rw [decide_eq_true h]; rfl
    · rw [decide_eq_true h, Bool.or_true]
  have e5 : (!decide (kind = 4) || alikeX l es x) = true := by
    rcases h5 with h | h
    · rw [decide_eq_false h]; rfl
    · rw [h, Bool.or_true]
  rw [e3, e5]
  rfl
theorem okX_bounds {m : List Obj} {l : List Edit} {kind : Int} {es : List Int} {i : Nat} {x : Int} (h : okX m l kind es i x = true) : 0 ≤ x ∧ x < l.length := by
  unfold okX at h
  simp only [Bool.and_eq_true, decide_eq_true_eq] at h
  exact ⟨h.1, h.2.1⟩
theorem obj_cells (a : Edit) : ((encEdit a).drop 9).take 6 = encObj a.obj := rfl
theorem spec_holds (m : List Obj) (l : List Edit) (e : Evid) (hm : MapFit m) (hl : l.length ≤ 30000) (hlt : ∀ e ∈ l, e.obj.tags.length < 4611686018427387904) (hes : e.edits.length ≤ 30000) {s : Nat → Option Blk} {k : Nat → Tk} :
    Spec prg 17 [.agg (encMap m), .sl 15 (l.map encEdit) .no, .agg (encEvid e)] s k (.bool (holdsF m l e)) s k := by
  refine spec_tr prg_mixed tr_plaw31_holds (Nat.le_of_ble_eq_true rfl) rfl ?_
  unfold pc_plaw31_holds rs_plaw31_holds
  obtain ⟨kind, es⟩ := e
  dsimp only at hes
  have hone := fun x h1 h4 s k => @spec_one m x kind h1 h4 hm s k
  have hcn := fun s k => @spec_count l (by omega) s k
  simp only [encMap] at hone
  simp only [sZ, initT, optI, splice, reduceIte, reduceCtorEq, Nat.reduceEqDiff, Nat.reduceAdd, Nat.reduceSub, Nat.reduceMul, Nat.reduceLeDiff, Nat.reduceLT, Int.reduceLT, Int.reduceLE, Int.reduceToNat, Int.reduceEq, Int.cast_ofNat_Int, encMap, encEvid]
  (with_reducible refine newS_in ?_); intro b3 f3; simp only [upd_none] at f3
  simp only [sZ, initT, optI, splice, reduceIte, reduceCtorEq, Nat.reduceEqDiff, Nat.reduceAdd, Nat.reduceSub, Nat.reduceMul, Nat.reduceLeDiff, Nat.reduceLT, Int.reduceLT, Int.reduceLE, Int.reduceToNat, Int.reduceEq, Int.cast_ofNat_Int, f3]
  (with_reducible refine newS_in ?_); intro b5 f5; simp only [upd_none] at f5
  by_cases c1 : kind < 1
  · have hF : holdsF m l ⟨kind, es⟩ = false := by
      unfold holdsF
      dsimp only
      rw [decide_eq_false (by omega : ¬ 1 ≤ kind)]
      simp
    have d1 := decide_eq_true c1
    rw [hF]
    simp only [sZ, initT, optI, splice, reduceIte, reduceCtorEq, Nat.reduceEqDiff, Nat.reduceAdd, Nat.reduceSub, Nat.reduceMul, Nat.reduceLeDiff, Nat.reduceLT, Int.reduceLT, Int.reduceLE, Int.reduceToNat, Int.reduceEq, Int.cast_ofNat_Int, f3, f5, d1]
    refine OutQ.eq (by repeat (first | exact SExt.refl _ | (refine SExt.old ?_ (by first | (simp only [*]; done) | (simp only [upd_none]; assumption) | (simp only [upd_none, *, not_false_eq_true, and_self]; done)) _))) rfl
  have d1 := decide_eq_false c1
  by_cases c2 : 4 < kind
  · have hF : holdsF m l ⟨kind, es⟩ = false := by
      unfold holdsF
      dsimp only
      rw [decide_eq_false (by omega : ¬ kind ≤ 4)]
      simp
    have d2 := decide_eq_true c2
    rw [hF]
    simp only [sZ, initT, optI, splice, reduceIte, reduceCtorEq, Nat.reduceEqDiff, Nat.reduceAdd, Nat.reduceSub, Nat.reduceMul, Nat.reduceLeDiff, Nat.reduceLT, Int.reduceLT, Int.reduceLE, Int.reduceToNat, Int.reduceEq, Int.cast_ofNat_Int, f3, f5, d1, d2]
    refine OutQ.eq (by repeat (first | exact SExt.refl _ | (refine SExt.old ?_ (by first | (simp only [*]; done) | (simp only [upd_none]; assumption) | (simp only [upd_none, *, not_false_eq_true, and_self]; done)) _))) rfl
  have d2 := decide_eq_false c2
  have h1 : 1 ≤ kind := by omega
  have h4 : kind ≤ 4 := by omega
  have p0 : (0 : Int) ≤ kind := by omega
  have p5 : kind < 5 := by omega
  have hrow := many_row h1 h4
  by_cases c3 : es.length = manyE kind
  rotate_left
  · have hF : holdsF m l ⟨kind, es⟩ = false := by
      unfold holdsF
      dsimp only
      rw [decide_eq_false c3]
      simp
    have d3 : (!decide ((es.length : Int) = ((manyE kind : Nat) : Int))) = true := by simp; omega
    rw [hF]
    simp only [sZ, initT, optI, splice, reduceIte, reduceCtorEq, Nat.reduceEqDiff, Nat.reduceAdd, Nat.reduceSub, Nat.reduceMul, Nat.reduceLeDiff, Nat.reduceLT, Int.reduceLT, Int.reduceLE, Int.reduceToNat, Int.reduceEq, Int.cast_ofNat_Int, f3, f5, d1, d2, p0, p5, hrow, d3]
    refine OutQ.eq (by repeat (first | exact SExt.refl _ | (refine SExt.old ?_ (by first | (simp only [*]; done) | (simp only [upd_none]; assumption) | (simp only [upd_none, *, not_false_eq_true, and_self]; done)) _))) rfl
  have d3 : (!decide ((es.length : Int) = ((manyE kind : Nat) : Int))) = false := by simp; omega
  have hdl := dropsF_le l
  have hws : IntKind.i64.wrap ((l.length : Int) - (dropsF l : Nat)) = (l.length : Int) - (dropsF l : Nat) := wrap64 (by omega) (by omega)
  by_cases c4 : kind = 1 ∧ 2 * dropsF l ≤ l.length
  · have hF : holdsF m l ⟨kind, es⟩ = false := by
      unfold holdsF
      dsimp only
      rw [decide_eq_true c4.1, decide_eq_true c4.2]
      simp
    have d4 := decide_eq_true c4.1
    have d5 : decide (((dropsF l : Nat) : Int) ≤ (l.length : Int) - (dropsF l : Nat)) = true := decide_eq_true (by omega)
    rw [hF]
    simp only [sZ, initT, optI, splice, reduceIte, reduceCtorEq, Nat.reduceEqDiff, Nat.reduceAdd, Nat.reduceSub, Nat.reduceMul, Nat.reduceLeDiff, Nat.reduceLT, Int.reduceLT, Int.reduceLE, Int.reduceToNat, Int.reduceEq, Int.cast_ofNat_Int, f3, f5, d1, d2, p0, p5, hrow, d3, d4]
    refine callQS_quiet (hcn _ _) ?_
    simp only [sZ, initT, optI, splice, reduceIte, reduceCtorEq, Nat.reduceEqDiff, Nat.reduceAdd, Nat.reduceSub, Nat.reduceMul, Nat.reduceLeDiff, Nat.reduceLT, Int.reduceLT, Int.reduceLE, Int.reduceToNat, Int.reduceEq, Int.cast_ofNat_Int, f3, f5, d1, d2, p0, p5, hrow, d3, d4]
    refine callQS_quiet (hcn _ _) ?_
    simp only [sZ, initT, optI, splice, reduceIte, reduceCtorEq, Nat.reduceEqDiff, Nat.reduceAdd, Nat.reduceSub, Nat.reduceMul, Nat.reduceLeDiff, Nat.reduceLT, Int.reduceLT, Int.reduceLE, Int.reduceToNat, Int.reduceEq, Int.cast_ofNat_Int, f3, f5, d1, d2, p0, p5, hrow, d3, d4, hws, d5]
    refine OutQ.eq (by repeat (first | exact SExt.refl _ | (refine SExt.old ?_ (by first | (simp only [*]; done) | (simp only [upd_none]; assumption) | (simp only [upd_none, *, not_false_eq_true, and_self]; done)) _))) rfl
  have hF : holdsF m l ⟨kind, es⟩ = ((List.range es.length).all (okI m l kind es) && decide ((idsL l kind es).length = es.length)) := by
    unfold holdsF
    dsimp only
    have q4 : (!(decide (kind = 1) && decide (2 * dropsF l ≤ l.length))) = true := by
      rw [← Bool.decide_and, decide_eq_false c4]; rfl
    rw [decide_eq_true h1, decide_eq_true h4, decide_eq_true c3, q4]
    simp
  have hcase : (decide (kind = 1) = false) ∨ (decide (kind = 1) = true ∧ decide (((dropsF l : Nat) : Int) ≤ (l.length : Int) - (dropsF l : Nat)) = false) := by
    by_cases c : kind = 1
    · exact .inr ⟨decide_eq_true c, decide_eq_false (by omega)⟩
    · exact .inl (decide_eq_false c)
  have hmk : ∀ (st : St) (K : A → St → Prop), (∀ id, st.s id = none → K (.map id) ⟨st.t, upd st.s id (some (.map (encM encB (idsL l kind (es.take 0))))), st.k⟩) → mkmS st K := fun st K h => mkmS_in h
  rcases hcase with d4 | ⟨d4, d5⟩
  all_goals first
    | (simp only [sZ, initT, optI, splice, reduceIte, reduceCtorEq, Nat.reduceEqDiff, Nat.reduceAdd, Nat.reduceSub, Nat.reduceMul, Nat.reduceLeDiff, Nat.reduceLT, Int.reduceLT, Int.reduceLE, Int.reduceToNat, Int.reduceEq, Int.cast_ofNat_Int, f3, f5, d1, d2, p0, p5, hrow, d3, d4]
       refine callQS_quiet (hcn _ _) ?_
       simp only [sZ, initT, optI, splice, reduceIte, reduceCtorEq, Nat.reduceEqDiff, Nat.reduceAdd, Nat.reduceSub, Nat.reduceMul, Nat.reduceLeDiff, Nat.reduceLT, Int.reduceLT, Int.reduceLE, Int.reduceToNat, Int.reduceEq, Int.cast_ofNat_Int, f3, f5, d1, d2, p0, p5, hrow, d3, d4]
       refine callQS_quiet (hcn _ _) ?_
       simp only [sZ, initT, optI, splice, reduceIte, reduceCtorEq, Nat.reduceEqDiff, Nat.reduceAdd, Nat.reduceSub, Nat.reduceMul, Nat.reduceLeDiff, Nat.reduceLT, Int.reduceLT, Int.reduceLE, Int.reduceToNat, Int.reduceEq, Int.cast_ofNat_Int, f3, f5, d1, d2, p0, p5, hrow, d3, d4, hws, d5])
    | simp only [sZ, initT, optI, splice, reduceIte, reduceCtorEq, Nat.reduceEqDiff, Nat.reduceAdd, Nat.reduceSub, Nat.reduceMul, Nat.reduceLeDiff, Nat.reduceLT, Int.reduceLT, Int.reduceLE, Int.reduceToNat, Int.reduceEq, Int.cast_ofNat_Int, f3, f5, d1, d2, p0, p5, hrow, d3, d4]
  all_goals
    refine hmk _ _ ?_
    intro mi fm
    simp only [upd_none] at fm
    simp only [sZ, initT, optI, splice, reduceIte, reduceCtorEq, Nat.reduceEqDiff, Nat.reduceAdd, Nat.reduceSub, Nat.reduceMul, Nat.reduceLeDiff, Nat.reduceLT, Int.reduceLT, Int.reduceLE, Int.reduceToNat, Int.reduceEq, Int.cast_ofNat_Int, f3, f5, fm]
    refine loop_L (α := Unit) es.length (fun i _ => [(1, .sl 15 (l.map encEdit) .no), (3, .ptr b3 0), (5, .ptr b5 0), (8, .map mi), (9, .int .i64 i)])
      (fun i _ => upd (upd (upd s b3 (some (.cells [.sl 6 (m.map encObj) .no]))) b5 (some (.cells [.int .i64 kind, .sl 1 (es.map encInt) .no]))) mi (some (.map (encM encB (idsL l kind (es.take i)))))) (fun _ _ => k)
      (fun i _ => (List.range i).all (okI m l kind es) = true) () (SExt.refl _) rfl (by (try simp only [TabLe_cons, TabLe_nil, tab_cons, tab_nil, upd_apply, Nat.reduceEqDiff, reduceIte, and_true]); repeat' (first | exact trivial | exact A.le_refl _ | exact le_strip_no _ _ _ | exact A.le_no _ _ _ | exact A.le_empty _ _ _ | refine And.intro ?_ ?_)) rfl ?_
    rintro i ⟨⟩ hi hall
    try dsimp only
    simp only [sZ, initT, optI, splice, reduceIte, reduceCtorEq, Nat.reduceEqDiff, Nat.reduceAdd, Nat.reduceSub, Nat.reduceMul, Nat.reduceLeDiff, Nat.reduceLT, Int.reduceLT, Int.reduceLE, Int.reduceToNat, Int.reduceEq, Int.cast_ofNat_Int, f3, f5, fm]
    refine brC_in (fun hlt => ?_) (fun hge => ?_)
    · have hi' : i < es.length := by have := of_decide_eq_true hlt; omega
      clear hlt
      have hw := wrap_succ hi' (by omega)
      have hg : (es.map encInt)[i]? = some (encInt es[i]) := intE.get hi'
      have hgd : es.getD i 0 = es[i] := by rw [List.getD_eq_getElem?_getD, List.getElem?_eq_getElem hi']; rfl
      have hok : okI m l kind es i = okX m l kind es i es[i] := by unfold okI; rw [hgd]
      have hno : okX m l kind es i es[i] = false → holdsF m l ⟨kind, es⟩ = false := fun h => holds_no hi' (by rw [hok]; exact h)
      have hids := idsL_take l kind es hi'
      have hrs := range_take_all (okI m l kind es) es.length hi'
      rw [hall, Bool.true_and, hok] at hrs
      generalize hx : es[i] = x at *
      simp only [sZ, initT, optI, splice, reduceIte, reduceCtorEq, Nat.reduceEqDiff, Nat.reduceAdd, Nat.reduceSub, Nat.reduceMul, Nat.reduceLeDiff, Nat.reduceLT, Int.reduceLT, Int.reduceLE, Int.reduceToNat, Int.reduceEq, Int.cast_ofNat_Int, f3, f5, fm, hg, get_int]
      by_cases a1 : x < 0
      · rw [hno (okX_no (.inl a1))]
        have e1 := decide_eq_true a1
        simp only [sZ, initT, optI, splice, reduceIte, reduceCtorEq, Nat.reduceEqDiff, Nat.reduceAdd, Nat.reduceSub, Nat.reduceMul, Nat.reduceLeDiff, Nat.reduceLT, Int.reduceLT, Int.reduceLE, Int.reduceToNat, Int.reduceEq, Int.cast_ofNat_Int, f3, f5, fm, e1]
        refine OutQ.eq (by repeat (first | exact SExt.refl _ | (refine SExt.old ?_ (by first | (simp only [*]; done) | (simp only [upd_none]; assumption) | (simp only [upd_none, *, not_false_eq_true, and_self]; done)) _))) rfl
      have e1 := decide_eq_false a1
      by_cases a2 : (l.length : Int) ≤ x
      · rw [hno (okX_no (.inr (.inl a2)))]
        have e2 := decide_eq_true a2
        simp only [sZ, initT, optI, splice, reduceIte, reduceCtorEq, Nat.reduceEqDiff, Nat.reduceAdd, Nat.reduceSub, Nat.reduceMul, Nat.reduceLeDiff, Nat.reduceLT, Int.reduceLT, Int.reduceLE, Int.reduceToNat, Int.reduceEq, Int.cast_ofNat_Int, f3, f5, fm, e1, e2]
        refine OutQ.eq (by repeat (first | exact SExt.refl _ | (refine SExt.old ?_ (by first | (simp only [*]; done) | (simp only [upd_none]; assumption) | (simp only [upd_none, *, not_false_eq_true, and_self]; done)) _))) rfl
      have e2 := decide_eq_false a2
      have hprev : ∀ (h : i ≠ 0), (es.map encInt)[i - 1]? = some (encInt (es.getD (i - 1) 0)) := fun h => by
        have : es.getD (i - 1) 0 = es[i - 1] := by rw [List.getD_eq_getElem?_getD, List.getElem?_eq_getElem (by omega)]; rfl
        rw [this]
        exact intE.get (by omega)
      have hw1 : ∀ (h : i ≠ 0), IntKind.i64.wrap ((i : Int) - 1) = ((i - 1 : Nat) : Int) := fun h => by rw [wrap64 (by omega) (by omega)]; omega
      have q1 : (0 : Int) ≤ ((i - 1 : Nat) : Int) := by omega
      have q2 : ((i - 1 : Nat) : Int) < (es.length : Int) := by omega
      by_cases a3 : i ≠ 0 ∧ x ≤ es.getD (i - 1) 0
      · rw [hno (okX_no (.inr (.inr (.inl a3))))]
        have e3 : decide ((0 : Int) < i) = true := decide_eq_true (by omega)
        have e4 := decide_eq_true a3.2
        simp only [sZ, initT, optI, splice, reduceIte, reduceCtorEq, Nat.reduceEqDiff, Nat.reduceAdd, Nat.reduceSub, Nat.reduceMul, Nat.reduceLeDiff, Nat.reduceLT, Int.reduceLT, Int.reduceLE, Int.reduceToNat, Int.reduceEq, Int.cast_ofNat_Int, f3, f5, fm, e1, e2, e3, hw1 a3.1, hprev a3.1, q1, q2, get_int, Int.toNat_natCast, e4]
        refine OutQ.eq (by repeat (first | exact SExt.refl _ | (refine SExt.old ?_ (by first | (simp only [*]; done) | (simp only [upd_none]; assumption) | (simp only [upd_none, *, not_false_eq_true, and_self]; done)) _))) rfl
      have hseq : (decide ((0 : Int) < i) = false) ∨ (decide ((0 : Int) < i) = true ∧ i ≠ 0 ∧ decide (x ≤ es.getD (i - 1) 0) = false) := by
        by_cases c : i = 0
        · exact .inl (decide_eq_false (by omega))
        · exact .inr ⟨decide_eq_true (by omega), c, decide_eq_false fun h => a3 ⟨c, h⟩⟩
      have h3' : i = 0 ∨ es.getD (i - 1) 0 < x := by
        by_cases c : i = 0
        · exact .inl c
        · exact .inr (by have : ¬ x ≤ es.getD (i - 1) 0 := fun h => a3 ⟨c, h⟩; omega)
      obtain ⟨n, rfl⟩ : ∃ n : Nat, x = n := ⟨x.toNat, by omega⟩
      have hn : n < l.length := by omega
      have hgx : (l.map encEdit)[n]? = some (encEdit l[n]) := editE.get hn
      have hat : atE l ((n : Int)).toNat = l[n] := by rw [Int.toNat_natCast, atE_get hn]
      have q3 : (0 : Int) ≤ (n : Int) := by omega
      have q4 : (n : Int) < (l.length : Int) := by omega
      have hkey : keyI l kind (n : Int) = if kind = 4 then l[n].obj.id else l[n].id := by unfold keyI; rw [hat]
      rcases hseq with e3 | ⟨e3, c3', e4⟩
      all_goals first
        | simp only [sZ, initT, optI, splice, reduceIte, reduceCtorEq, Nat.reduceEqDiff, Nat.reduceAdd, Nat.reduceSub, Nat.reduceMul, Nat.reduceLeDiff, Nat.reduceLT, Int.reduceLT, Int.reduceLE, Int.reduceToNat, Int.reduceEq, Int.cast_ofNat_Int, f3, f5, fm, e1, e2, e3, q3, q4, hgx, Int.toNat_natCast, len_encEdit, wh_encEdit, st_encEdit, hw1 c3', hprev c3', q1, q2, get_int, e4]
        | simp only [sZ, initT, optI, splice, reduceIte, reduceCtorEq, Nat.reduceEqDiff, Nat.reduceAdd, Nat.reduceSub, Nat.reduceMul, Nat.reduceLeDiff, Nat.reduceLT, Int.reduceLT, Int.reduceLE, Int.reduceToNat, Int.reduceEq, Int.cast_ofNat_Int, f3, f5, fm, e1, e2, e3, q3, q4, hgx, Int.toNat_natCast, len_encEdit, wh_encEdit, st_encEdit]
      all_goals
        refine callQS_quiet (hone l[n] h1 h4 _ _) ?_
        cases hsh : showE m kind l[n]
        · rw [hno (okX_no (.inr (.inr (.inr (.inl (by rw [hat]; exact hsh))))))]
          simp only [sZ, initT, optI, splice, reduceIte, reduceCtorEq, Nat.reduceEqDiff, Nat.reduceAdd, Nat.reduceSub, Nat.reduceMul, Nat.reduceLeDiff, Nat.reduceLT, Int.reduceLT, Int.reduceLE, Int.reduceToNat, Int.reduceEq, Int.cast_ofNat_Int, f3, f5, fm, Bool.not_false]
          refine OutQ.eq (by repeat (first | exact SExt.refl _ | (refine SExt.old ?_ (by first | (simp only [*]; done) | (simp only [upd_none]; assumption) | (simp only [upd_none, *, not_false_eq_true, and_self]; done)) _))) rfl
        by_cases c5 : kind = 4
        rotate_left
        · have d7 : (!decide (kind = 4)) = true := by rw [decide_eq_false c5]; rfl
          rw [if_neg c5] at hkey
          rw [okX_yes q3 q4 h3' (by rw [hat]; exact hsh) (.inl c5)] at hrs
          simp only [sZ, initT, optI, splice, reduceIte, reduceCtorEq, Nat.reduceEqDiff, Nat.reduceAdd, Nat.reduceSub, Nat.reduceMul, Nat.reduceLeDiff, Nat.reduceLT, Int.reduceLT, Int.reduceLE, Int.reduceToNat, Int.reduceEq, Int.cast_ofNat_Int, f3, f5, fm, d7, Bool.not_true, q3, q4, hgx, Int.toNat_natCast, id_edit, mset_B, hw]
          refine next_L hi' () ?_ rfl (by (try simp only [TabLe_cons, TabLe_nil, tab_cons, tab_nil, upd_apply, Nat.reduceEqDiff, reduceIte, and_true]); repeat' (first | exact trivial | exact A.le_refl _ | exact le_strip_no _ _ _ | exact A.le_no _ _ _ | exact A.le_empty _ _ _ | refine And.intro ?_ ?_)) hrs
          rw [hids, hkey]
          exact SExt.refl _
        · have d7 : (!decide (kind = 4)) = false := by rw [decide_eq_true c5]; rfl
          rw [if_pos c5] at hkey
          obtain ⟨n0, hy, hn0⟩ : ∃ n0 : Nat, es.getD 0 0 = n0 ∧ n0 < l.length := by
            by_cases c : i = 0
            · subst c
              exact ⟨n, by rw [hgd], hn⟩
            · have := okX_bounds (List.all_eq_true.1 hall 0 (List.mem_range.2 (by omega)))
              exact ⟨(es.getD 0 0).toNat, by omega, by omega⟩
          have hg0 : (es.map encInt)[0]? = some (encInt n0) := by
            have : es.getD 0 0 = es[0] := by rw [List.getD_eq_getElem?_getD, List.getElem?_eq_getElem (by omega)]; rfl
            rw [← hy, this]
            exact intE.get (by omega)
          have hgx0 : (l.map encEdit)[n0]? = some (encEdit l[n0]) := editE.get hn0
          have hat0 : atE l (es.getD 0 0).toNat = l[n0] := by rw [hy, Int.toNat_natCast, atE_get hn0]
          have hal : alikeX l es n = ((decide (l[n].obj.x = l[n0].obj.x) && decide (l[n].obj.y = l[n0].obj.y)) && decide (l[n].obj.tags = l[n0].obj.tags)) := by unfold alikeX; rw [hat, hat0]
          have q5 : (0 : Int) ≤ (n0 : Int) := by omega
          have q6 : (n0 : Int) < (l.length : Int) := by omega
          have q7 : (0 : Int) < (es.length : Int) := by omega
          have hta := hlt l[n] (List.getElem_mem hn)
          have hsh' : showE m kind (atE l ((n : Int)).toNat) = true := by rw [hat]; exact hsh
          generalize l[n] = a at *
          generalize l[n0] = b at *
          obtain ⟨aop, aid, aot, ano, ax, ay, ake, ava, are, ⟨oid, okd, ox, oy, ore, ota⟩⟩ := a
          obtain ⟨bop, bid, bot, bno, bx, by', bke, bva, bre, ⟨pid, pkd, px, py, pre, pta⟩⟩ := b
          dsimp only at hkey hal hta
          simp only [sZ, initT, optI, splice, reduceIte, reduceCtorEq, Nat.reduceEqDiff, Nat.reduceAdd, Nat.reduceSub, Nat.reduceMul, Nat.reduceLeDiff, Nat.reduceLT, Int.reduceLT, Int.reduceLE, Int.reduceToNat, Int.reduceEq, Int.cast_ofNat_Int, f3, f5, fm, d7, Bool.not_true, q3, q4, q5, q6, q7, hgx, hg0, hgx0, get_int, Int.toNat_natCast, encEdit]
          refine newR_in ?_
          intro b11 f11 g11
          simp only [upd_none, rr_eqs2, and_true] at f11 g11
          simp only [sZ, initT, optI, splice, reduceIte, reduceCtorEq, Nat.reduceEqDiff, Nat.reduceAdd, Nat.reduceSub, Nat.reduceMul, Nat.reduceLeDiff, Nat.reduceLT, Int.reduceLT, Int.reduceLE, Int.reduceToNat, Int.reduceEq, Int.cast_ofNat_Int, f3, f5, fm, f11]
          refine newR_in ?_
          intro b12 f12 g12
          simp only [upd_none, upd_none', rr_eqs2, and_true] at f12 g12
          simp only [sZ, initT, optI, splice, reduceIte, reduceCtorEq, Nat.reduceEqDiff, Nat.reduceAdd, Nat.reduceSub, Nat.reduceMul, Nat.reduceLeDiff, Nat.reduceLT, Int.reduceLT, Int.reduceLE, Int.reduceToNat, Int.reduceEq, Int.cast_ofNat_Int, f3, f5, fm, f11, f12, g12, mset_B, fit_pt, eq_pt]
          rw [hkey] at hids
          by_cases cat : (decide (ox = px) && decide (oy = py)) = true
          rotate_left
          · have cat' : (decide (ox = px) && decide (oy = py)) = false := by simpa using cat
            rw [hno (okX_no (.inr (.inr (.inr (.inr ⟨c5, by rw [hal, cat', Bool.false_and]⟩)))))]
            simp only [sZ, initT, optI, splice, reduceIte, reduceCtorEq, Nat.reduceEqDiff, Nat.reduceAdd, Nat.reduceSub, Nat.reduceMul, Nat.reduceLeDiff, Nat.reduceLT, Int.reduceLT, Int.reduceLE, Int.reduceToNat, Int.reduceEq, Int.cast_ofNat_Int, f3, f5, fm, f11, f12, g12, cat', Bool.not_false]
            refine OutQ.eq (by repeat (first | exact SExt.refl _ | (refine SExt.old ?_ (by first | (simp only [*]; done) | (simp only [upd_none]; assumption) | (simp only [upd_none, *, not_false_eq_true, and_self]; done)) _))) rfl
          · rw [cat, Bool.true_and] at hal
            by_cases clen : ota.length = pta.length
            rotate_left
            · have hne : ota ≠ pta := fun e => clen (by rw [e])
              have d8 : (!decide ((ota.length : Int) = (pta.length : Int))) = true := by simp; omega
              rw [hno (okX_no (.inr (.inr (.inr (.inr ⟨c5, by rw [hal, decide_eq_false hne]⟩)))))]
              simp only [sZ, initT, optI, splice, reduceIte, reduceCtorEq, Nat.reduceEqDiff, Nat.reduceAdd, Nat.reduceSub, Nat.reduceMul, Nat.reduceLeDiff, Nat.reduceLT, Int.reduceLT, Int.reduceLE, Int.reduceToNat, Int.reduceEq, Int.cast_ofNat_Int, f3, f5, fm, f11, f12, g12, cat, Bool.not_true, d8]
              refine OutQ.eq (by repeat (first | exact SExt.refl _ | (refine SExt.old ?_ (by first | (simp only [*]; done) | (simp only [upd_none]; assumption) | (simp only [upd_none, *, not_false_eq_true, and_self]; done)) _))) rfl
            · have d8 : (!decide ((ota.length : Int) = (pta.length : Int))) = false := by simp; omega
              simp only [sZ, initT, optI, splice, reduceIte, reduceCtorEq, Nat.reduceEqDiff, Nat.reduceAdd, Nat.reduceSub, Nat.reduceMul, Nat.reduceLeDiff, Nat.reduceLT, Int.reduceLT, Int.reduceLE, Int.reduceToNat, Int.reduceEq, Int.cast_ofNat_Int, f3, f5, fm, f11, f12, g12, cat, Bool.not_true, d8]
              refine loop_L (α := Unit) ota.length (fun j _ => [(1, .sl 15 (l.map encEdit) .no), (3, .ptr b3 0), (5, .ptr b5 0), (8, .map mi), (9, .int .i64 i), (11, .ptr b11 0), (12, .ptr b12 0), (13, .int .i64 j)])
                (fun _ _ => upd (upd (upd (upd (upd (upd s b3 (some (.cells [.sl 6 (m.map encObj) .no]))) b5 (some (.cells [.int .i64 kind, .sl 1 (es.map encInt) .no]))) mi (some (.map (encM encB (idsL l kind (es.take i)))))) b11 (some (.cells [.str oid, .int .i64 okd, .int .i64 ox, .int .i64 oy, .sl 1 (ore.map encStr) .no, .sl 2 (ota.map encTag) .no]))) b12 (some (.cells [.str pid, .int .i64 pkd, .int .i64 px, .int .i64 py, .sl 1 (pre.map encStr) .no, .sl 2 (pta.map encTag) .no]))) mi (some (.map (encM encB (setM oid true (idsL l kind (es.take i)))))))
                (fun _ _ => k) (fun j _ => ∀ q (h : q < ota.length) (h2 : q < pta.length), q < j → ota[q] = pta[q]) () (by
                  intro z _
                  simp only [upd_apply]
                  by_cases z1 : z = mi
                  · simp only [z1, reduceIte, eq_self, if_true]
                  · by_cases z2 : z = b12
                    · simp only [z1, z2, reduceIte, eq_self, if_true]
                    · by_cases z3 : z = b11
                      · simp only [z1, z2, z3, reduceIte, eq_self, if_true]
                      · simp only [z1, z2, z3, reduceIte]) rfl (by (try simp only [TabLe_cons, TabLe_nil, tab_cons, tab_nil, upd_apply, Nat.reduceEqDiff, reduceIte, and_true]); repeat' (first | exact trivial | exact A.le_refl _ | exact le_strip_no _ _ _ | exact A.le_no _ _ _ | exact A.le_empty _ _ _ | refine And.intro ?_ ?_)) (fun q _ _ h => by omega) ?_
              rintro j ⟨⟩ hj hall2
              try dsimp only
              simp only [sZ, initT, optI, splice, reduceIte, reduceCtorEq, Nat.reduceEqDiff, Nat.reduceAdd, Nat.reduceSub, Nat.reduceMul, Nat.reduceLeDiff, Nat.reduceLT, Int.reduceLT, Int.reduceLE, Int.reduceToNat, Int.reduceEq, Int.cast_ofNat_Int, f3, f5, fm, f11, f12, g12]
              refine brC_in (fun hlt2 => ?_) (fun hge2 => ?_)
              · have hj' : j < ota.length := by have := of_decide_eq_true hlt2; omega
                clear hlt2
                have hwj := wrap_succ hj' (by omega)
                have ga : (ota.map encTag)[j]? = some (encTag ota[j]) := tagE.get hj'
                have gb : (pta.map encTag)[j]? = some (encTag pta[j]) := tagE.get (by omega)
                simp only [sZ, initT, optI, splice, reduceIte, reduceCtorEq, Nat.reduceEqDiff, Nat.reduceAdd, Nat.reduceSub, Nat.reduceMul, Nat.reduceLeDiff, Nat.reduceLT, Int.reduceLT, Int.reduceLE, Int.reduceToNat, Int.reduceEq, Int.cast_ofNat_Int, f3, f5, fm, f11, f12, g12, ga, gb, len_encTag, wh_encTag, fit_tag, eq_tag]
                refine brC_in (fun hp1 => ?_) (fun hp0 => ?_)
                · have hne : ota ≠ pta := fun e => by subst e; simp at hp1
                  rw [hno (okX_no (.inr (.inr (.inr (.inr ⟨c5, by rw [hal, decide_eq_false hne]⟩)))))]
                  simp only [sZ, initT, optI, splice, reduceIte, reduceCtorEq, Nat.reduceEqDiff, Nat.reduceAdd, Nat.reduceSub, Nat.reduceMul, Nat.reduceLeDiff, Nat.reduceLT, Int.reduceLT, Int.reduceLE, Int.reduceToNat, Int.reduceEq, Int.cast_ofNat_Int, f3, f5, fm, f11, f12, g12]
                  refine OutQ.eq (by repeat (first | exact SExt.refl _ | (refine SExt.old ?_ (by first | (simp only [*]; done) | (simp only [upd_none]; assumption) | (simp only [upd_none, *, not_false_eq_true, and_self]; done)) _))) rfl
                · simp only [sZ, initT, optI, splice, reduceIte, reduceCtorEq, Nat.reduceEqDiff, Nat.reduceAdd, Nat.reduceSub, Nat.reduceMul, Nat.reduceLeDiff, Nat.reduceLT, Int.reduceLT, Int.reduceLE, Int.reduceToNat, Int.reduceEq, Int.cast_ofNat_Int, hwj]
                  refine next_L hj' () (SExt.refl _) rfl (by (try simp only [TabLe_cons, TabLe_nil, tab_cons, tab_nil, upd_apply, Nat.reduceEqDiff, reduceIte, and_true]); repeat' (first | exact trivial | exact A.le_refl _ | exact le_strip_no _ _ _ | exact A.le_no _ _ _ | exact A.le_empty _ _ _ | refine And.intro ?_ ?_)) fun q h1 h2 h3 => ?_
                  by_cases h : q = j
                  · subst h; simpa using hp0
                  · exact hall2 q h1 h2 (by omega)
              · have heq : ota = pta := list_eq_of_get clen fun q h1 h2 => hall2 q h1 h2 (by have := of_decide_eq_false hge2; omega)
                rw [okX_yes q3 q4 h3' hsh' (.inr (by rw [hal, decide_eq_true heq]))] at hrs
                simp only [sZ, initT, optI, splice, reduceIte, reduceCtorEq, Nat.reduceEqDiff, Nat.reduceAdd, Nat.reduceSub, Nat.reduceMul, Nat.reduceLeDiff, Nat.reduceLT, Int.reduceLT, Int.reduceLE, Int.reduceToNat, Int.reduceEq, Int.cast_ofNat_Int, hw]
                refine next_L hi' () ?_ rfl (by (try simp only [TabLe_cons, TabLe_nil, tab_cons, tab_nil, upd_apply, Nat.reduceEqDiff, reduceIte, and_true]); repeat' (first | exact trivial | exact A.le_refl _ | exact le_strip_no _ _ _ | exact A.le_no _ _ _ | exact A.le_empty _ _ _ | refine And.intro ?_ ?_)) hrs
                rw [hids]
                exact SExt.over _ (by repeat (first | exact SExt.refl _ | (refine SExt.old ?_ (by first | (simp only [*]; done) | (simp only [upd_none]; assumption) | (simp only [upd_none, *, not_false_eq_true, and_self]; done)) _)))
    · have hie : i = es.length := by have := of_decide_eq_false hge; omega
      subst hie
      rw [List.take_length]
      have hq : decide (((idsL l kind es).length : Int) = (es.length : Int)) = decide ((idsL l kind es).length = es.length) := by
        rw [Bool.eq_iff_iff, decide_eq_true_eq, decide_eq_true_eq]; omega
      rw [hF, hall, Bool.true_and]
      simp only [sZ, initT, optI, splice, reduceIte, reduceCtorEq, Nat.reduceEqDiff, Nat.reduceAdd, Nat.reduceSub, Nat.reduceMul, Nat.reduceLeDiff, Nat.reduceLT, Int.reduceLT, Int.reduceLE, Int.reduceToNat, Int.reduceEq, Int.cast_ofNat_Int, f3, f5, fm, encM_len, hq]
      refine OutQ.eq (by repeat (first | exact SExt.refl _ | (refine SExt.old ?_ (by first | (simp only [*]; done) | (simp only [upd_none]; assumption) | (simp only [upd_none, *, not_false_eq_true, and_self]; done)) _))) rfl
end Go.Pv
