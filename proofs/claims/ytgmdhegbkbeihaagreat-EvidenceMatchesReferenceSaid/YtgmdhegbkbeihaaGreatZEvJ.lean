/- Maps that are closed. -/
import Derived.Test.YtgmdhegbkbeihaaGreatZEvI
set_option linter.unusedVariables false
set_option linter.unusedSimpArgs false
set_option maxRecDepth 4000
set_option maxHeartbeats 2000000
namespace Go.Pv
open Go

theorem spec_find_1 (o : Obj) (i : ByteArray) {s : Nat → Option Blk} {k : Nat → Tk} {id : Nat} (h : s id = some (.cells [.str i])) :
    Spec prg 103 [.agg (encObj o), .ptr id 0] s k (.bool (decide (o.id = i))) s k := by
  refine spec_tr prg_mixed tr_atlas_Find_1 (Nat.le_of_ble_eq_true rfl) rfl ?_
  unfold pc_atlas_Find_1 rs_atlas_Find_1
  simp only [sZ, initT, optI, splice, reduceIte, reduceCtorEq, Nat.reduceEqDiff, Nat.reduceAdd, Nat.reduceSub, Nat.reduceMul, Nat.reduceLeDiff, Nat.reduceLT, Int.reduceLT, Int.reduceLE, Int.reduceToNat, Int.reduceEq, Int.cast_ofNat_Int, encObj]
  (with_reducible refine newS_in ?_); intro b f; simp only [upd_none] at f
  have : ¬ id = b := fun e => by subst e; rw [h] at f; cases f
  simp only [sZ, initT, optI, splice, reduceIte, reduceCtorEq, Nat.reduceEqDiff, Nat.reduceAdd, Nat.reduceSub, Nat.reduceMul, Nat.reduceLeDiff, Nat.reduceLT, Int.reduceLT, Int.reduceLE, Int.reduceToNat, Int.reduceEq, Int.cast_ofNat_Int, this, h, f]
  refine OutQ.eq (SExt.old (SExt.refl _) f _) rfl
def findI (m : List Obj) (i : ByteArray) : Int := idxOf (fun o => decide (o.id = i)) m
theorem spec_find (m : List Obj) (i : ByteArray) (hl : m.length < 4611686018427387904) {s : Nat → Option Blk} {k : Nat → Tk} : Spec prg 59 [.agg (encMap m), .str i] s k (.int .i64 (findI m i)) s k := by
  refine spec_tr prg_mixed tr_atlas_Find (Nat.le_of_ble_eq_true rfl) rfl ?_
  unfold pc_atlas_Find rs_atlas_Find
  simp only [sZ, initT, optI, splice, reduceIte, reduceCtorEq, Nat.reduceEqDiff, Nat.reduceAdd, Nat.reduceSub, Nat.reduceMul, Nat.reduceLeDiff, Nat.reduceLT, Int.reduceLT, Int.reduceLE, Int.reduceToNat, Int.reduceEq, Int.cast_ofNat_Int, encMap]
  (with_reducible refine newS_in ?_); intro b2 f2; simp only [upd_none] at f2
  simp only [sZ, initT, optI, splice, reduceIte, reduceCtorEq, Nat.reduceEqDiff, Nat.reduceAdd, Nat.reduceSub, Nat.reduceMul, Nat.reduceLeDiff, Nat.reduceLT, Int.reduceLT, Int.reduceLE, Int.reduceToNat, Int.reduceEq, Int.cast_ofNat_Int, f2]
  (with_reducible refine newS_in ?_); intro b3 f3; simp only [upd_none] at f3
  simp only [sZ, initT, optI, splice, reduceIte, reduceCtorEq, Nat.reduceEqDiff, Nat.reduceAdd, Nat.reduceSub, Nat.reduceMul, Nat.reduceLeDiff, Nat.reduceLT, Int.reduceLT, Int.reduceLE, Int.reduceToNat, Int.reduceEq, Int.cast_ofNat_Int, f2, f3]
  refine callS_quiet (r := .int .i64 (findI m i)) ?_ ?_
  · refine spec37 m _ _ _ hl fun o _ => spec_find_1 o i ?_
    simp only [upd_apply, f2, f3, if_true, if_false]
  simp only [sZ, initT, optI, splice, reduceIte, reduceCtorEq, Nat.reduceEqDiff, Nat.reduceAdd, Nat.reduceSub, Nat.reduceMul, Nat.reduceLeDiff, Nat.reduceLT, Int.reduceLT, Int.reduceLE, Int.reduceToNat, Int.reduceEq, Int.cast_ofNat_Int, f2, f3]
  refine OutQ.eq (by repeat (first | exact SExt.refl _ | (refine SExt.old ?_ (by first | (simp only [*]; done) | (simp only [upd_none]; assumption) | (simp only [upd_none, *, not_false_eq_true, and_self]; done)) _))) rfl
def wantK (kind i : Int) : Int := cond (decide (kind = 4) || (decide (kind = 5) && !decide (i = 1))) 2 1
theorem spec_wanted (kind i : Int) {s : Nat → Option Blk} {k : Nat → Tk} : Spec prg 135 [.int .i64 kind, .int .i64 i] s k (.int .i64 (wantK kind i)) s k := by
  refine spec_tr prg_mixed tr_edit_wanted (Nat.le_of_ble_eq_true rfl) rfl ?_
  unfold pc_edit_wanted rs_edit_wanted
  repeat' (first | (first | (with_reducible refine newS_in ?_; intro _ hid_; simp only [upd_none] at hid_) | (with_reducible refine newR_in ?_; intro _ hid_ hih_; simp only [upd_none, upd_none', rr_eqs2, and_true] at hid_ hih_) | (with_reducible refine mkmS_in ?_; intro _ hid_; simp only [upd_none] at hid_)) | (with_reducible refine brC_in (fun h_ => ?_) (fun h_ => ?_)) | (with_reducible refine brG_in (fun h_ => ?_) (fun h_ => ?_)) | (with_reducible refine brN_in (fun h_ => ?_) (fun h_ => ?_)) | simp only [sZ, initT, optI, splice, reduceIte, reduceCtorEq, Nat.reduceEqDiff, Nat.reduceAdd, Nat.reduceSub, Nat.reduceMul, Nat.reduceLeDiff, Nat.reduceLT, Int.reduceLT, Int.reduceLE, Int.reduceToNat, Int.reduceEq, Int.cast_ofNat_Int, *])
  all_goals refine OutQ.eq (by repeat (first | exact SExt.refl _ | (refine SExt.old ?_ (by first | (simp only [*]; done) | (simp only [upd_none]; assumption) | (simp only [upd_none, *, not_false_eq_true, and_self]; done)) _))) ?_
  all_goals (simp only [wantK, *, Bool.true_or, Bool.false_or, Bool.true_and, Bool.false_and, cond_true, cond_false])
def firstNZ (f : Nat → Int) (n : Nat) : Int := match (List.range n).find? (fun i => !decide (f i = 0)) with
  | some i => f i
  | none => 0
theorem firstNZ_hit {f : Nat → Int} {n j : Nat} (hj : j < n) (h0 : ∀ i, i < j → f i = 0) (h1 : f j ≠ 0) : firstNZ f n = f j := by
  have : (List.range n).find? (fun i => !decide (f i = 0)) = some j := by
    rw [List.find?_eq_some_iff_getElem]
    refine ⟨by simpa using h1, j, by simpa using hj, by simp, fun i hi => ?_⟩
    simpa using h0 i hi
  unfold firstNZ
  rw [this]
theorem firstNZ_none {f : Nat → Int} {n : Nat} (h0 : ∀ i, i < n → f i = 0) : firstNZ f n = 0 := by
  have : (List.range n).find? (fun i => !decide (f i = 0)) = none := by
    rw [List.find?_eq_none]
    intro i hi
    simpa using h0 i (by simpa using hi)
  unfold firstNZ
  rw [this]
def encK (n : Int) : A := .int .i64 n
def kindM : List Obj → List (ByteArray × Int) → List (ByteArray × Int)
  | [], m => m
  | o :: l, m => kindM l (setM o.id o.kind m)
theorem kindM_take : ∀ (l : List Obj) (m : List (ByteArray × Int)) {j : Nat} (h : j < l.length), kindM (l.take (j + 1)) m = setM l[j].id l[j].kind (kindM (l.take j) m)
  | x :: l, m, 0, _ => by simp [kindM]
  | x :: l, m, j + 1, h => by
    rw [List.take_succ_cons, List.take_succ_cons]
    simp only [kindM, List.getElem_cons_succ]
    exact kindM_take l _ (by simpa using h)
theorem mset_K (l : List (ByteArray × Int)) (s : ByteArray) (v : Int) (id : Nat) (st : St) (K : A → St → Prop) :
    msetB .str (some (.map (encM encK l))) id (.str s) (.int .i64 v) st K = K .undef ⟨st.t, upd st.s id (some (.map (encM encK (setM s v l)))), st.k⟩ := mset_M encK l s v id rfl rfl st K
def lookK (x : ByteArray) (M : List (ByteArray × Int)) : Int := (lookM x M).getD 0
theorem look_K (M : List (ByteArray × Int)) (x : ByteArray) (st : St) (K : A → St → Prop) : lookB .str true (.int .i64 0) (some (.map (encM encK M))) (.str x) st K = K (.tup [.int .i64 (lookK x M), .bool (lookM x M).isSome]) st := by
  rw [look_M]
  unfold lookK
  cases lookM x M <;> rfl
def errAt (M : List (ByteArray × Int)) (kind : Int) (refs : List ByteArray) (i : Nat) : Int :=
  cond (!(lookM (refs.getD i ⟨#[]⟩) M).isSome) 14 (cond (!decide (lookK (refs.getD i ⟨#[]⟩) M = wantK kind i)) 13 0)
def refsE (M : List (ByteArray × Int)) (kind : Int) (refs : List ByteArray) : Int := firstNZ (errAt M kind refs) refs.length
theorem spec_crefs (M : List (ByteArray × Int)) (o : Obj) (hl : o.refs.length < 4611686018427387904) {s : Nat → Option Blk} {k : Nat → Tk} {c mi : Nat} {ms : A} (hc : s c = some (.cells [ms, .map mi])) (hm : s mi = some (.map (encM encK M))) :
    Spec prg 98 [.ptr c 0, .agg (encObj o)] s k (.int .i64 (refsE M o.kind o.refs)) s k := by
  refine spec_tr prg_mixed tr_edit_closed_refs (Nat.le_of_ble_eq_true rfl) rfl ?_
  unfold pc_edit_closed_refs rs_edit_closed_refs
  obtain ⟨id, kind, x, y, refs, tags⟩ := o
  dsimp only at hl
  simp only [sZ, initT, optI, splice, reduceIte, reduceCtorEq, Nat.reduceEqDiff, Nat.reduceAdd, Nat.reduceSub, Nat.reduceMul, Nat.reduceLeDiff, Nat.reduceLT, Int.reduceLT, Int.reduceLE, Int.reduceToNat, Int.reduceEq, Int.cast_ofNat_Int, encObj]
  (with_reducible refine newS_in ?_); intro b3 f3; simp only [upd_none] at f3
  have n1 : ¬ c = b3 := fun e => by subst e; rw [hc] at f3; cases f3
  have n2 : ¬ mi = b3 := fun e => by subst e; rw [hm] at f3; cases f3
  simp only [sZ, initT, optI, splice, reduceIte, reduceCtorEq, Nat.reduceEqDiff, Nat.reduceAdd, Nat.reduceSub, Nat.reduceMul, Nat.reduceLeDiff, Nat.reduceLT, Int.reduceLT, Int.reduceLE, Int.reduceToNat, Int.reduceEq, Int.cast_ofNat_Int, n1, n2, hc, hm]
  refine loop_L (α := Unit) refs.length (fun j _ => [(0, .ptr c 0), (3, .ptr b3 0), (10, .sl 1 (refs.map encStr) .no), (11, .int .i64 refs.length), (12, .int .i64 j)]) (fun j _ => upd s b3 (some (.cells (encObj ⟨id, kind, x, y, refs, tags⟩)))) (fun _ _ => k) (fun j _ => ∀ i, i < j → errAt M kind refs i = 0) () (SExt.refl _) rfl (by (try simp only [TabLe_cons, TabLe_nil, tab_cons, tab_nil, upd_apply, Nat.reduceEqDiff, reduceIte, and_true]); repeat' (first | exact trivial | exact A.le_refl _ | exact le_strip_no _ _ _ | exact A.le_no _ _ _ | exact A.le_empty _ _ _ | refine And.intro ?_ ?_)) (fun i h => by omega) ?_
  rintro j ⟨⟩ hj hall
  try dsimp only
  simp only [sZ, initT, optI, splice, reduceIte, reduceCtorEq, Nat.reduceEqDiff, Nat.reduceAdd, Nat.reduceSub, Nat.reduceMul, Nat.reduceLeDiff, Nat.reduceLT, Int.reduceLT, Int.reduceLE, Int.reduceToNat, Int.reduceEq, Int.cast_ofNat_Int, n1, n2, hc, hm]
  refine brC_in (fun hlt => ?_) (fun hge => ?_)
  · have hj' : j < refs.length := by have := of_decide_eq_true hlt; omega
    clear hlt
    have hw := wrap_succ hj' (by omega)
    have hg : (refs.map encStr)[j]? = some (encStr refs[j]) := strE.get hj'
    have hgd : refs.getD j ⟨#[]⟩ = refs[j] := by rw [List.getD_eq_getElem?_getD, List.getElem?_eq_getElem hj']; rfl
    have he : errAt M kind refs j = cond (!(lookM refs[j] M).isSome) 14 (cond (!decide (lookK refs[j] M = wantK kind j)) 13 0) := by unfold errAt; rw [hgd]
    simp only [sZ, initT, optI, splice, reduceIte, reduceCtorEq, Nat.reduceEqDiff, Nat.reduceAdd, Nat.reduceSub, Nat.reduceMul, Nat.reduceLeDiff, Nat.reduceLT, Int.reduceLT, Int.reduceLE, Int.reduceToNat, Int.reduceEq, Int.cast_ofNat_Int, n1, n2, hc, hm, hg, get_str, encObj, look_K]
    refine brC_in (fun h1 => ?_) (fun h1 => ?_)
    · rw [h1, cond_true] at he
      simp only [sZ, initT, optI, splice, reduceIte, reduceCtorEq, Nat.reduceEqDiff, Nat.reduceAdd, Nat.reduceSub, Nat.reduceMul, Nat.reduceLeDiff, Nat.reduceLT, Int.reduceLT, Int.reduceLE, Int.reduceToNat, Int.reduceEq, Int.cast_ofNat_Int]
      refine OutQ.eq (by repeat (first | exact SExt.refl _ | (refine SExt.old ?_ (by first | (simp only [*]; done) | (simp only [upd_none]; assumption) | (simp only [upd_none, *, not_false_eq_true, and_self]; done)) _))) ?_
      unfold refsE
      rw [firstNZ_hit hj' hall (by rw [he]; decide), he]
    · rw [h1, cond_false] at he
      simp only [sZ, initT, optI, splice, reduceIte, reduceCtorEq, Nat.reduceEqDiff, Nat.reduceAdd, Nat.reduceSub, Nat.reduceMul, Nat.reduceLeDiff, Nat.reduceLT, Int.reduceLT, Int.reduceLE, Int.reduceToNat, Int.reduceEq, Int.cast_ofNat_Int, n1, n2, hc, hm]
      refine callS_quiet (spec_wanted kind j) ?_
      simp only [sZ, initT, optI, splice, reduceIte, reduceCtorEq, Nat.reduceEqDiff, Nat.reduceAdd, Nat.reduceSub, Nat.reduceMul, Nat.reduceLeDiff, Nat.reduceLT, Int.reduceLT, Int.reduceLE, Int.reduceToNat, Int.reduceEq, Int.cast_ofNat_Int, n1, n2, hc, hm]
      refine brC_in (fun h2 => ?_) (fun h2 => ?_)
      · rw [h2, cond_true] at he
        simp only [sZ, initT, optI, splice, reduceIte, reduceCtorEq, Nat.reduceEqDiff, Nat.reduceAdd, Nat.reduceSub, Nat.reduceMul, Nat.reduceLeDiff, Nat.reduceLT, Int.reduceLT, Int.reduceLE, Int.reduceToNat, Int.reduceEq, Int.cast_ofNat_Int]
        refine OutQ.eq (by repeat (first | exact SExt.refl _ | (refine SExt.old ?_ (by first | (simp only [*]; done) | (simp only [upd_none]; assumption) | (simp only [upd_none, *, not_false_eq_true, and_self]; done)) _))) ?_
        unfold refsE
        rw [firstNZ_hit hj' hall (by rw [he]; decide), he]
      · rw [h2, cond_false] at he
        simp only [sZ, initT, optI, splice, reduceIte, reduceCtorEq, Nat.reduceEqDiff, Nat.reduceAdd, Nat.reduceSub, Nat.reduceMul, Nat.reduceLeDiff, Nat.reduceLT, Int.reduceLT, Int.reduceLE, Int.reduceToNat, Int.reduceEq, Int.cast_ofNat_Int, hw]
        refine next_L hj' () (SExt.refl _) rfl (by (try simp only [TabLe_cons, TabLe_nil, tab_cons, tab_nil, upd_apply, Nat.reduceEqDiff, reduceIte, and_true]); repeat' (first | exact trivial | exact A.le_refl _ | exact le_strip_no _ _ _ | exact A.le_no _ _ _ | exact A.le_empty _ _ _ | refine And.intro ?_ ?_)) fun i hi => ?_
        by_cases hij : i = j
        · subst hij; exact he
        · exact hall i (by omega)
  · have hje : j = refs.length := by have := of_decide_eq_false hge; omega
    subst hje
    simp only [sZ, initT, optI, splice, reduceIte, reduceCtorEq, Nat.reduceEqDiff, Nat.reduceAdd, Nat.reduceSub, Nat.reduceMul, Nat.reduceLeDiff, Nat.reduceLT, Int.reduceLT, Int.reduceLE, Int.reduceToNat, Int.reduceEq, Int.cast_ofNat_Int]
    refine OutQ.eq (by repeat (first | exact SExt.refl _ | (refine SExt.old ?_ (by first | (simp only [*]; done) | (simp only [upd_none]; assumption) | (simp only [upd_none, *, not_false_eq_true, and_self]; done)) _))) ?_
    unfold refsE
    rw [firstNZ_none hall]
def closedF (m : List Obj) : Bool := mapV m && m.all fun o => decide (refsE (kindM m []) o.kind o.refs = 0)
/-- What edit.of returns. -/
def ofR (m : List Obj) (s : Hp) (k : Nat → Tk) : A → Hp → (Nat → Tk) → Prop := fun r s' k' => k' = k ∧ ((closedF m = false ∧ r = .nilptr ∧ s' = s) ∨
  (closedF m = true ∧ ∃ c mi, s c = none ∧ s mi = none ∧ ¬ c = mi ∧ ¬ mi = c ∧ r = .ptr c 0 ∧ s' = upd (upd s mi (some (.map (encM encK (kindM m []))))) c (some (.cells [.sl 6 (m.map encObj) .no, .map mi]))))
theorem OutR.of {s s' st : Hp} {k : Nat → Tk} {R : A → Hp → (Nat → Tk) → Prop} {r : A} {t : Nat → A} (h : R r s' k) (hs : ∀ id, s' id = none ∨ s' id = st id) : OutR s k R r ⟨t, st, k⟩ := ⟨r, s', k, h, .le (A.le_refl _), hs, .inl rfl⟩
theorem less_of {s st : Hp} (h : SExt s st) (id : Nat) : s id = none ∨ s id = st id := by
  by_cases e : s id = none
  · exact .inl e
  · exact .inr (h id e).symm
theorem spec_of (m : List Obj) (hm : MapFit m) {s : Hp} {k : Nat → Tk} : SpecR prg 56 [.agg (encMap m)] s k (ofR m s k) := by
  refine specR_tr prg_mixed tr_edit_of (Nat.le_of_ble_eq_true rfl) rfl ?_
  unfold pc_edit_of rs_edit_of
  have hv := fun s k => @spec_map m hm s k
  obtain ⟨hl, hof⟩ := hm
  simp only [encMap] at hv
  simp only [sZ, initT, optI, splice, reduceIte, reduceCtorEq, Nat.reduceEqDiff, Nat.reduceAdd, Nat.reduceSub, Nat.reduceMul, Nat.reduceLeDiff, Nat.reduceLT, Int.reduceLT, Int.reduceLE, Int.reduceToNat, Int.reduceEq, Int.cast_ofNat_Int, encMap]
  (with_reducible refine newS_in ?_); intro b1 f1; simp only [upd_none] at f1
  simp only [sZ, initT, optI, splice, reduceIte, reduceCtorEq, Nat.reduceEqDiff, Nat.reduceAdd, Nat.reduceSub, Nat.reduceMul, Nat.reduceLeDiff, Nat.reduceLT, Int.reduceLT, Int.reduceLE, Int.reduceToNat, Int.reduceEq, Int.cast_ofNat_Int, f1]
  refine callS_quiet (hv _ _) ?_
  simp only [sZ, initT, optI, splice, reduceIte, reduceCtorEq, Nat.reduceEqDiff, Nat.reduceAdd, Nat.reduceSub, Nat.reduceMul, Nat.reduceLeDiff, Nat.reduceLT, Int.reduceLT, Int.reduceLE, Int.reduceToNat, Int.reduceEq, Int.cast_ofNat_Int, f1]
  refine brC_in (fun h1 => ?_) (fun h1 => ?_)
  · simp only [sZ, initT, optI, splice, reduceIte, reduceCtorEq, Nat.reduceEqDiff, Nat.reduceAdd, Nat.reduceSub, Nat.reduceMul, Nat.reduceLeDiff, Nat.reduceLT, Int.reduceLT, Int.reduceLE, Int.reduceToNat, Int.reduceEq, Int.cast_ofNat_Int]
    refine OutR.of ⟨rfl, .inl ⟨?_, rfl, rfl⟩⟩ (less_of (by repeat (first | exact SExt.refl _ | (refine SExt.old ?_ (by first | (simp only [*]; done) | (simp only [upd_none]; assumption) | (simp only [upd_none, *, not_false_eq_true, and_self]; done)) _))))
    unfold closedF
    have : mapV m = false := by simpa using h1
    rw [this]
    rfl
  have h1' : mapV m = true := by simpa using h1
  clear h1 hv
  simp only [sZ, initT, optI, splice, reduceIte, reduceCtorEq, Nat.reduceEqDiff, Nat.reduceAdd, Nat.reduceSub, Nat.reduceMul, Nat.reduceLeDiff, Nat.reduceLT, Int.reduceLT, Int.reduceLE, Int.reduceToNat, Int.reduceEq, Int.cast_ofNat_Int, f1]
  have hmk : ∀ (st : St) (K : A → St → Prop), (∀ id, st.s id = none → K (.map id) ⟨st.t, upd st.s id (some (.map (encM encK []))), st.k⟩) → mkmS st K := fun st K h => mkmS_in h
  refine hmk _ _ ?_
  intro mi fm
  simp only [upd_none] at fm
  simp only [sZ, initT, optI, splice, reduceIte, reduceCtorEq, Nat.reduceEqDiff, Nat.reduceAdd, Nat.reduceSub, Nat.reduceMul, Nat.reduceLeDiff, Nat.reduceLT, Int.reduceLT, Int.reduceLE, Int.reduceToNat, Int.reduceEq, Int.cast_ofNat_Int, f1, fm]
  (with_reducible refine newS_in ?_); intro c fc; simp only [upd_none] at fc
  simp only [sZ, initT, optI, splice, reduceIte, reduceCtorEq, Nat.reduceEqDiff, Nat.reduceAdd, Nat.reduceSub, Nat.reduceMul, Nat.reduceLeDiff, Nat.reduceLT, Int.reduceLT, Int.reduceLE, Int.reduceToNat, Int.reduceEq, Int.cast_ofNat_Int, f1, fm, fc]
  refine loop_L (α := Unit) m.length (fun j _ => [(1, .ptr b1 0), (3, .ptr c 0), (16, .sl 6 (m.map encObj) .no), (17, .int .i64 m.length), (18, .int .i64 j)])
    (fun j _ => upd (upd (upd s b1 (some (.cells [.sl 6 (m.map encObj) .no]))) mi (some (.map (encM encK (kindM (m.take j) []))))) c (some (.cells [.sl 6 (m.map encObj) .no, .map mi]))) (fun _ _ => k) (fun _ _ => True) () (SExt.refl _) rfl (by (try simp only [TabLe_cons, TabLe_nil, tab_cons, tab_nil, upd_apply, Nat.reduceEqDiff, reduceIte, and_true]); repeat' (first | exact trivial | exact A.le_refl _ | exact le_strip_no _ _ _ | exact A.le_no _ _ _ | exact A.le_empty _ _ _ | refine And.intro ?_ ?_)) trivial ?_
  rintro j ⟨⟩ hj -
  try dsimp only
  simp only [sZ, initT, optI, splice, reduceIte, reduceCtorEq, Nat.reduceEqDiff, Nat.reduceAdd, Nat.reduceSub, Nat.reduceMul, Nat.reduceLeDiff, Nat.reduceLT, Int.reduceLT, Int.reduceLE, Int.reduceToNat, Int.reduceEq, Int.cast_ofNat_Int, f1, fm, fc]
  refine brC_in (fun hlt => ?_) (fun hge => ?_)
  · have hj' : j < m.length := by have := of_decide_eq_true hlt; omega
    clear hlt
    have hw := wrap_succ hj' (by omega)
    have hg : (m.map encObj)[j]? = some (encObj m[j]) := objE.get hj'
    have hk := kindM_take m [] hj'
    generalize he : m[j] = o at *
    obtain ⟨id, kind, x, y, refs, tags⟩ := o
    dsimp only at hk
    simp only [sZ, initT, optI, splice, reduceIte, reduceCtorEq, Nat.reduceEqDiff, Nat.reduceAdd, Nat.reduceSub, Nat.reduceMul, Nat.reduceLeDiff, Nat.reduceLT, Int.reduceLT, Int.reduceLE, Int.reduceToNat, Int.reduceEq, Int.cast_ofNat_Int, f1, fm, fc, hg, encObj]
    (with_reducible refine newS_in ?_); intro b5 f5; simp only [upd_none] at f5
    simp only [sZ, initT, optI, splice, reduceIte, reduceCtorEq, Nat.reduceEqDiff, Nat.reduceAdd, Nat.reduceSub, Nat.reduceMul, Nat.reduceLeDiff, Nat.reduceLT, Int.reduceLT, Int.reduceLE, Int.reduceToNat, Int.reduceEq, Int.cast_ofNat_Int, f1, fm, fc, f5, hg, encObj, mset_K, hw]
    refine next_L hj' () ?_ rfl (by (try simp only [TabLe_cons, TabLe_nil, tab_cons, tab_nil, upd_apply, Nat.reduceEqDiff, reduceIte, and_true]); repeat' (first | exact trivial | exact A.le_refl _ | exact le_strip_no _ _ _ | exact A.le_no _ _ _ | exact A.le_empty _ _ _ | refine And.intro ?_ ?_)) trivial
    rw [hk]
    intro id hid
    by_cases i1 : id = c
    · subst i1; simp only [upd_apply, f1, fm, fc, f5, reduceIte]
    · by_cases i2 : id = mi
      · subst i2; simp only [upd_apply, f1, fm, fc, f5, i1, reduceIte]
      · by_cases i3 : id = b5
        · subst i3
          simp only [upd_apply, f1, fm, fc, f5, i1, i2, reduceIte] at hid
          exact absurd rfl hid
        · simp only [upd_apply, i1, i2, i3, reduceIte]
  · have hje : j = m.length := by have := of_decide_eq_false hge; omega
    subst hje
    rw [List.take_length]
    simp only [sZ, initT, optI, splice, reduceIte, reduceCtorEq, Nat.reduceEqDiff, Nat.reduceAdd, Nat.reduceSub, Nat.reduceMul, Nat.reduceLeDiff, Nat.reduceLT, Int.reduceLT, Int.reduceLE, Int.reduceToNat, Int.reduceEq, Int.cast_ofNat_Int, f1, fm, fc]
    refine loop_L (α := Unit) m.length (fun j _ => [(1, .ptr b1 0), (3, .ptr c 0), (32, .sl 6 (m.map encObj) .no), (33, .int .i64 m.length), (34, .int .i64 j)])
      (fun j _ => upd (upd (upd s b1 (some (.cells [.sl 6 (m.map encObj) .no]))) mi (some (.map (encM encK (kindM m []))))) c (some (.cells [.sl 6 (m.map encObj) .no, .map mi]))) (fun _ _ => k) (fun j _ => ∀ i (h : i < m.length), i < j → refsE (kindM m []) m[i].kind m[i].refs = 0) () (SExt.refl _) rfl (by (try simp only [TabLe_cons, TabLe_nil, tab_cons, tab_nil, upd_apply, Nat.reduceEqDiff, reduceIte, and_true]); repeat' (first | exact trivial | exact A.le_refl _ | exact le_strip_no _ _ _ | exact A.le_no _ _ _ | exact A.le_empty _ _ _ | refine And.intro ?_ ?_)) (fun i _ h => by omega) ?_
    rintro j ⟨⟩ hj hall
    try dsimp only
    simp only [sZ, initT, optI, splice, reduceIte, reduceCtorEq, Nat.reduceEqDiff, Nat.reduceAdd, Nat.reduceSub, Nat.reduceMul, Nat.reduceLeDiff, Nat.reduceLT, Int.reduceLT, Int.reduceLE, Int.reduceToNat, Int.reduceEq, Int.cast_ofNat_Int, f1, fm, fc]
    refine brC_in (fun hlt => ?_) (fun hge => ?_)
    · have hj' : j < m.length := by have := of_decide_eq_true hlt; omega
      clear hlt
      have hw := wrap_succ hj' (by omega)
      have hg : (m.map encObj)[j]? = some (encObj m[j]) := objE.get hj'
      have hf := hof _ (List.getElem_mem hj')
      simp only [sZ, initT, optI, splice, reduceIte, reduceCtorEq, Nat.reduceEqDiff, Nat.reduceAdd, Nat.reduceSub, Nat.reduceMul, Nat.reduceLeDiff, Nat.reduceLT, Int.reduceLT, Int.reduceLE, Int.reduceToNat, Int.reduceEq, Int.cast_ofNat_Int, f1, fm, fc, hg, len_encObj, wh_encObj, st_encObj]
      (with_reducible refine newS_in ?_); intro b7 f7; simp only [upd_none] at f7
      simp only [sZ, initT, optI, splice, reduceIte, reduceCtorEq, Nat.reduceEqDiff, Nat.reduceAdd, Nat.reduceSub, Nat.reduceMul, Nat.reduceLeDiff, Nat.reduceLT, Int.reduceLT, Int.reduceLE, Int.reduceToNat, Int.reduceEq, Int.cast_ofNat_Int, f1, fm, fc, f7, len_encObj, wh_encObj, st_encObj]
      refine callS_quiet (spec_crefs (kindM m []) m[j] hf.refs (c := c) (mi := mi) (ms := .sl 6 (m.map encObj) .no) (by simp only [upd_apply, f1, fm, fc, f7, reduceIte]) (by simp only [upd_apply, f1, fm, fc, f7, reduceIte])) ?_
      simp only [sZ, initT, optI, splice, reduceIte, reduceCtorEq, Nat.reduceEqDiff, Nat.reduceAdd, Nat.reduceSub, Nat.reduceMul, Nat.reduceLeDiff, Nat.reduceLT, Int.reduceLT, Int.reduceLE, Int.reduceToNat, Int.reduceEq, Int.cast_ofNat_Int, f1, fm, fc, f7]
      refine brC_in (fun h2 => ?_) (fun h2 => ?_)
      · simp only [sZ, initT, optI, splice, reduceIte, reduceCtorEq, Nat.reduceEqDiff, Nat.reduceAdd, Nat.reduceSub, Nat.reduceMul, Nat.reduceLeDiff, Nat.reduceLT, Int.reduceLT, Int.reduceLE, Int.reduceToNat, Int.reduceEq, Int.cast_ofNat_Int]
        refine OutR.of ⟨rfl, .inl ⟨?_, rfl, rfl⟩⟩ (less_of (by repeat (first | exact SExt.refl _ | (refine SExt.old ?_ (by first | (simp only [*]; done) | (simp only [upd_none]; assumption) | (simp only [upd_none, *, not_false_eq_true, and_self]; done)) _))))
        have hne : ¬ refsE (kindM m []) m[j].kind m[j].refs = 0 := by simpa using h2
        have : (m.all fun o => decide (refsE (kindM m []) o.kind o.refs = 0)) = false := by
          rw [List.all_eq_false]
          exact ⟨m[j], List.getElem_mem hj', by simpa using hne⟩
        unfold closedF
        rw [this, Bool.and_false]
      · simp only [sZ, initT, optI, splice, reduceIte, reduceCtorEq, Nat.reduceEqDiff, Nat.reduceAdd, Nat.reduceSub, Nat.reduceMul, Nat.reduceLeDiff, Nat.reduceLT, Int.reduceLT, Int.reduceLE, Int.reduceToNat, Int.reduceEq, Int.cast_ofNat_Int, hw]
        refine next_L hj' () (by repeat (first | exact SExt.refl _ | (refine SExt.old ?_ (by first | (simp only [*]; done) | (simp only [upd_none]; assumption) | (simp only [upd_none, *, not_false_eq_true, and_self]; done)) _))) rfl (by (try simp only [TabLe_cons, TabLe_nil, tab_cons, tab_nil, upd_apply, Nat.reduceEqDiff, reduceIte, and_true]); repeat' (first | exact trivial | exact A.le_refl _ | exact le_strip_no _ _ _ | exact A.le_no _ _ _ | exact A.le_empty _ _ _ | refine And.intro ?_ ?_)) fun i hi h3 => ?_
        by_cases hij : i = j
        · subst hij; simpa using h2
        · exact hall i hi (by omega)
    · have hje : j = m.length := by have := of_decide_eq_false hge; omega
      subst hje
      simp only [sZ, initT, optI, splice, reduceIte, reduceCtorEq, Nat.reduceEqDiff, Nat.reduceAdd, Nat.reduceSub, Nat.reduceMul, Nat.reduceLeDiff, Nat.reduceLT, Int.reduceLT, Int.reduceLE, Int.reduceToNat, Int.reduceEq, Int.cast_ofNat_Int]
      have hcl : closedF m = true := by
        unfold closedF
        rw [h1', Bool.true_and, List.all_eq_true]
        intro o ho
        obtain ⟨i, hi, rfl⟩ := List.getElem_of_mem ho
        exact decide_eq_true (hall i hi hi)
      refine OutR.of ⟨rfl, .inr ⟨hcl, c, mi, fc.2.2, fm.2, fc.1.1, fc.1.2, rfl, rfl⟩⟩ fun id => ?_
      by_cases i1 : id = c
      · subst i1; simp only [upd_apply, f1, fm, fc, reduceIte, or_true]
      · by_cases i2 : id = mi
        · subst i2; simp only [upd_apply, f1, fm, fc, i1, reduceIte, or_true]
        · by_cases i3 : id = b1
          · subst i3; simp only [upd_apply, f1, fm, fc, i1, i2, reduceIte, true_or]
          · simp only [upd_apply, i1, i2, i3, reduceIte, or_true]
def allM (m : List Obj) : List Obj := cond (closedF m) m []
def allE (m : List Obj) : Int := cond (closedF m) 0 1
theorem spec_all0 (m : List Obj) (hm : MapFit m) {s : Hp} {k : Nat → Tk} : Spec prg 31 [.agg (encMap m), .sl 15 [] .nil] s k (.tup [.agg (encMap (allM m)), .int .i64 (-1), .int .i64 (allE m)]) s k := by
  refine spec_tr prg_mixed tr_edit_All (Nat.le_of_ble_eq_true rfl) rfl ?_
  unfold pc_edit_All rs_edit_All
  have ho := fun s k => @spec_of m hm s k
  simp only [encMap] at ho
  simp only [sZ, initT, optI, splice, reduceIte, reduceCtorEq, Nat.reduceEqDiff, Nat.reduceAdd, Nat.reduceSub, Nat.reduceMul, Nat.reduceLeDiff, Nat.reduceLT, Int.reduceLT, Int.reduceLE, Int.reduceToNat, Int.reduceEq, Int.cast_ofNat_Int, encMap]
  (with_reducible refine newS_in ?_); intro b2 f2; simp only [upd_none] at f2
  simp only [sZ, initT, optI, splice, reduceIte, reduceCtorEq, Nat.reduceEqDiff, Nat.reduceAdd, Nat.reduceSub, Nat.reduceMul, Nat.reduceLeDiff, Nat.reduceLT, Int.reduceLT, Int.reduceLE, Int.reduceToNat, Int.reduceEq, Int.cast_ofNat_Int, f2]
  (with_reducible refine newS_in ?_); intro b4 f4; simp only [upd_none] at f4
  simp only [sZ, initT, optI, splice, reduceIte, reduceCtorEq, Nat.reduceEqDiff, Nat.reduceAdd, Nat.reduceSub, Nat.reduceMul, Nat.reduceLeDiff, Nat.reduceLT, Int.reduceLT, Int.reduceLE, Int.reduceToNat, Int.reduceEq, Int.cast_ofNat_Int, f2, f4]
  refine callS_R (ho _ _) ?_
  rintro r s' k' ⟨rfl, ⟨hc, rfl, rfl⟩ | ⟨hc, c, mi, g1, g2, g3, g4, rfl, rfl⟩⟩
  · simp only [sZ, initT, optI, splice, reduceIte, reduceCtorEq, Nat.reduceEqDiff, Nat.reduceAdd, Nat.reduceSub, Nat.reduceMul, Nat.reduceLeDiff, Nat.reduceLT, Int.reduceLT, Int.reduceLE, Int.reduceToNat, Int.reduceEq, Int.cast_ofNat_Int, f2, f4]
    refine OutQ.le (by repeat (first | exact SExt.refl _ | (refine SExt.old ?_ (by first | (simp only [*]; done) | (simp only [upd_none]; assumption) | (simp only [upd_none, *, not_false_eq_true, and_self]; done)) _))) (A.le_tup (.cons (A.le_agg (.cons ?_ .nil)) (.cons (A.le_refl _) (.cons ?_ .nil))))
    · rw [allM, hc]; exact A.le_empty _ _ _
    · rw [allE, hc]; exact A.le_refl _
  · simp only [upd_none] at g1 g2
    simp only [sZ, initT, optI, splice, reduceIte, reduceCtorEq, Nat.reduceEqDiff, Nat.reduceAdd, Nat.reduceSub, Nat.reduceMul, Nat.reduceLeDiff, Nat.reduceLT, Int.reduceLT, Int.reduceLE, Int.reduceToNat, Int.reduceEq, Int.cast_ofNat_Int, f2, f4, g1, g2, g3, g4]
    refine loop_L (α := Unit) 0 (fun j _ => [(4, .ptr b4 0), (7, .ptr c 0), (18, .int .i64 0), (19, .int .i64 j)])
      (fun j _ => upd (upd (upd (upd s b2 (some (.cells [.sl 6 (m.map encObj) .no]))) b4 (some (.cells [.sl 6 [] .nil]))) mi (some (.map (encM encK (kindM m []))))) c (some (.cells [.sl 6 (m.map encObj) .no, .map mi]))) (fun _ _ => k') (fun _ _ => True) () (SExt.refl _) rfl (by (try simp only [TabLe_cons, TabLe_nil, tab_cons, tab_nil, upd_apply, Nat.reduceEqDiff, reduceIte, and_true]); repeat' (first | exact trivial | exact A.le_refl _ | exact le_strip_no _ _ _ | exact A.le_no _ _ _ | exact A.le_empty _ _ _ | refine And.intro ?_ ?_)) trivial ?_
    rintro j ⟨⟩ hj -
    have hj0 : j = 0 := by omega
    subst hj0
    try dsimp only
    simp only [sZ, initT, optI, splice, reduceIte, reduceCtorEq, Nat.reduceEqDiff, Nat.reduceAdd, Nat.reduceSub, Nat.reduceMul, Nat.reduceLeDiff, Nat.reduceLT, Int.reduceLT, Int.reduceLE, Int.reduceToNat, Int.reduceEq, Int.cast_ofNat_Int, f2, f4, g1, g2, g3, g4]
    refine OutQ.le (by repeat (first | exact SExt.refl _ | (refine SExt.old ?_ (by first | (simp only [*]; done) | (simp only [upd_none]; assumption) | (simp only [upd_none, *, not_false_eq_true, and_self]; done)) _))) (A.le_tup (.cons (A.le_agg (.cons ?_ .nil)) (.cons (A.le_refl _) (.cons ?_ .nil))))
    · rw [allM, hc]; exact A.le_refl _
    · rw [allE, hc]; exact A.le_refl _
theorem allE_ok (m : List Obj) : decide (allE m = 0) = closedF m := by
  unfold allE
  cases closedF m <;> rfl
end Go.Pv
