/- VerifyOthers: the law's loops, and that it returns true. -/
import Derived.Test.YtgmdhegbkbeihaaOthP
set_option linter.unusedVariables false
set_option linter.unusedSimpArgs false
set_option maxRecDepth 4000
set_option maxHeartbeats 1000000
namespace Go.Pv
open Go

theorem spec5 (m : List Obj) (l : List Edit) (e : Evid) (x : Edit) {s : Nat → Option Blk} {k : Nat → Tk} : Spec prg 5 [.agg (encMap m), .sl 15 (l.map encEdit) .no, .agg (encEvid e), .agg (encEdit x)] s k (.bool true) s k := by
  refine spec_tr prg_mixed tr_plaw32_VerifyOthers (Nat.le_of_ble_eq_true rfl) rfl ?_
  unfold pc_plaw32_VerifyOthers rs_plaw32_VerifyOthers
  obtain ⟨kd, es⟩ := e
  have h7 := fun s k => @spec7 m l ⟨kd, es⟩ s k
  have h10 := fun s k => @spec10 [x] 1 (by decide) s k
  simp only [List.map_cons, List.map_nil] at h10
  simp only [encMap, encEvid] at h7
  have h8 := fun m' l' s k => @spec8 m' l' ⟨kd, es⟩ s k
  simp only [pvZ, lz, nz, rr_one, upd_apply, upd_upd, initT, optI, splice, reduceIte, reduceCtorEq, Nat.reduceEqDiff, Nat.reduceAdd, Nat.reduceSub, Nat.reduceMul, Nat.reduceLeDiff, Nat.reduceLT, Int.reduceLT, Int.reduceLE, Int.reduceToNat, Int.reduceEq, Int.cast_ofNat_Int, and_true, not_false_eq_true, encMap, encEvid]
  (with_reducible refine newS_in ?_); intro i4 f4; simp only [upd_none] at f4
  simp only [pvZ, lz, nz, rr_one, upd_apply, upd_upd, initT, optI, splice, reduceIte, reduceCtorEq, Nat.reduceEqDiff, Nat.reduceAdd, Nat.reduceSub, Nat.reduceMul, Nat.reduceLeDiff, Nat.reduceLT, Int.reduceLT, Int.reduceLE, Int.reduceToNat, Int.reduceEq, Int.cast_ofNat_Int, and_true, not_false_eq_true]
  (with_reducible refine newS_in ?_); intro i6 f6; simp only [upd_none] at f6
  simp only [pvZ, lz, nz, rr_one, upd_apply, upd_upd, initT, optI, splice, reduceIte, reduceCtorEq, Nat.reduceEqDiff, Nat.reduceAdd, Nat.reduceSub, Nat.reduceMul, Nat.reduceLeDiff, Nat.reduceLT, Int.reduceLT, Int.reduceLE, Int.reduceToNat, Int.reduceEq, Int.cast_ofNat_Int, and_true, not_false_eq_true, st_encEdit]
  (with_reducible refine newS_in ?_); intro i7 f7; simp only [upd_none] at f7
  repeat' (first | (refine callS_quiet (spec6) ?_) | (refine callS_quiet (h7 _ _) ?_) | (first | (with_reducible refine newS_in ?_; intro _ hid_; simp only [upd_none] at hid_) | (with_reducible refine newR_in ?_; intro _ hid_ hih_; simp only [upd_none, upd_none', rr_eqs2, and_true] at hid_ hih_) | (with_reducible refine mkmS_in ?_; intro _ hid_; simp only [upd_none] at hid_)) | (with_reducible refine brC_in (fun h_ => ?_) (fun h_ => ?_)) | (with_reducible refine brG_in (fun h_ => ?_) (fun h_ => ?_)) | (with_reducible refine brN_in (fun h_ => ?_) (fun h_ => ?_)) | simp only [pvZ, lz, nz, rr_one, upd_apply, upd_upd, initT, optI, splice, reduceIte, reduceCtorEq, Nat.reduceEqDiff, Nat.reduceAdd, Nat.reduceSub, Nat.reduceMul, Nat.reduceLeDiff, Nat.reduceLT, Int.reduceLT, Int.reduceLE, Int.reduceToNat, Int.reduceEq, Int.cast_ofNat_Int, and_true, not_false_eq_true, *, -h7, -h10, -h8, len_encEdit, wh_encEdit, st_encEdit])
  all_goals first | (refine OutQ.eq (by repeat (first | exact SExt.refl _ | (refine SExt.old ?_ (by first | (simp only [*]; done) | (simp only [upd_none]; assumption) | (simp only [upd_none, *, not_false_eq_true, and_self]; done)) _))) rfl; done) | skip
  refine callS_quiet (Spec.args (h10 _ _) (.cons (A.le_no _ _ _) (.cons (A.le_refl _) .nil))) ?_
  have hfw := h_
  clear h_
  have hb : fewA m l ⟨kd, es⟩ = true := by simpa using hfw
  obtain ⟨b1, b2, b3, b4, b5⟩ := few_bounds hb
  dsimp only at b3
  have h11 := fun s k => @spec11 l ⟨kd, es⟩ (by omega) b3 s k
  simp only [encMap, encEvid] at h8 h11
  repeat' (first | (first | (with_reducible refine newS_in ?_; intro _ hid_; simp only [upd_none] at hid_) | (with_reducible refine newR_in ?_; intro _ hid_ hih_; simp only [upd_none, upd_none', rr_eqs2, and_true] at hid_ hih_) | (with_reducible refine mkmS_in ?_; intro _ hid_; simp only [upd_none] at hid_)) | (with_reducible refine brC_in (fun h_ => ?_) (fun h_ => ?_)) | (with_reducible refine brG_in (fun h_ => ?_) (fun h_ => ?_)) | (with_reducible refine brN_in (fun h_ => ?_) (fun h_ => ?_)) | simp only [pvZ, lz, nz, rr_one, upd_apply, upd_upd, initT, optI, splice, reduceIte, reduceCtorEq, Nat.reduceEqDiff, Nat.reduceAdd, Nat.reduceSub, Nat.reduceMul, Nat.reduceLeDiff, Nat.reduceLT, Int.reduceLT, Int.reduceLE, Int.reduceToNat, Int.reduceEq, Int.cast_ofNat_Int, and_true, not_false_eq_true, *, -h7, -h10, -h8, -h11, -b4, -b5])
  all_goals first | (refine OutQ.eq (by repeat (first | exact SExt.refl _ | (refine SExt.old ?_ (by first | (simp only [*]; done) | (simp only [upd_none]; assumption) | (simp only [upd_none, *, not_false_eq_true, and_self]; done)) _))) rfl; done) | skip
  have hfx := h_
  clear h_
  have hx : fewE x = true := by simpa using hfx
  clear h7 h10 hfw hfx hb
  refine callS_quiet (h8 m l _ _ (by omega) (fun o ho => by have := b4 o ho; omega) (by omega) (fun o ho => by have := b5 o ho; omega)) ?_
  simp only [pvZ, lz, nz, rr_one, upd_apply, upd_upd, initT, optI, splice, reduceIte, reduceCtorEq, Nat.reduceEqDiff, Nat.reduceAdd, Nat.reduceSub, Nat.reduceMul, Nat.reduceLeDiff, Nat.reduceLT, Int.reduceLT, Int.reduceLE, Int.reduceToNat, Int.reduceEq, Int.cast_ofNat_Int, and_true, not_false_eq_true, f4, f6, f7]
  refine callS_quiet (h11 _ _) ?_
  simp only [pvZ, lz, nz, rr_one, upd_apply, upd_upd, initT, optI, splice, reduceIte, reduceCtorEq, Nat.reduceEqDiff, Nat.reduceAdd, Nat.reduceSub, Nat.reduceMul, Nat.reduceLeDiff, Nat.reduceLT, Int.reduceLT, Int.reduceLE, Int.reduceToNat, Int.reduceEq, Int.cast_ofNat_Int, and_true, not_false_eq_true, f4, f6, f7]
  (with_reducible refine newS_in ?_); intro i12 f12; simp only [upd_none] at f12
  simp only [pvZ, lz, nz, rr_one, upd_apply, upd_upd, initT, optI, splice, reduceIte, reduceCtorEq, Nat.reduceEqDiff, Nat.reduceAdd, Nat.reduceSub, Nat.reduceMul, Nat.reduceLeDiff, Nat.reduceLT, Int.reduceLT, Int.reduceLE, Int.reduceToNat, Int.reduceEq, Int.cast_ofNat_Int, and_true, not_false_eq_true, f4, f6, f7, f12]
  generalize hN : namesF l es = names
  have hNl : names.length ≤ 10 := by rw [← hN]; have := namesF_len l es; omega
  have S3 : SExt s (upd (upd (upd s i4 (some (.cells [.sl 6 (m.map encObj) .no]))) i6 (some (.cells [.int .i64 kd, .sl 1 (es.map encInt) .no]))) i7 (some (.cells (encEdit x)))) := by repeat (first | exact SExt.refl _ | (refine SExt.old ?_ (by first | (simp only [*]; done) | (simp only [upd_none]; assumption) | (simp only [upd_none, *, not_false_eq_true, and_self]; done)) _))
  refine loop_L (α := Tok × (Nat → Tk)) m.length (fun j _ => [(1, .sl 15 (l.map encEdit) .no), (4, .ptr i4 0), (6, .ptr i6 0), (7, .ptr i7 0), (9, .bool true), (10, .bool (acceptF m l ⟨kd, es⟩)), (11, .sl 1 (names.map encStr) .no), (12, .ptr i12 0), (13, .int .i64 j)])
    (fun j p => upd (upd (upd (upd s i4 (some (.cells [.sl 6 (m.map encObj) .no]))) i6 (some (.cells [.int .i64 kd, .sl 1 (es.map encInt) .no]))) i7 (some (.cells (encEdit x)))) i12 (some (.cells [.sl 6 ((bareF names (m.take j)).map encObj) p.1]))) (fun _ p => p.2)
    (fun _ p => KExt k p.2 ∧ TokA k p.2 37 p.1) (.nil, k) (SExt.refl _) rfl (by (try simp only [TabLe_cons, TabLe_nil, tab_cons, tab_nil, upd_apply, Nat.reduceEqDiff, reduceIte, and_true]); repeat' (first | exact trivial | exact A.le_refl _ | exact le_strip_no _ _ _ | exact A.le_no _ _ _ | exact A.le_empty _ _ _ | refine And.intro ?_ ?_)) ⟨KExt.refl _, .inl rfl⟩ ?_
  rintro j ⟨tok, k'⟩ hj ⟨hk, htok⟩
  dsimp only at hk htok ⊢
  simp only [pvZ, lz, nz, rr_one, upd_apply, upd_upd, initT, optI, splice, reduceIte, reduceCtorEq, Nat.reduceEqDiff, Nat.reduceAdd, Nat.reduceSub, Nat.reduceMul, Nat.reduceLeDiff, Nat.reduceLT, Int.reduceLT, Int.reduceLE, Int.reduceToNat, Int.reduceEq, Int.cast_ofNat_Int, and_true, not_false_eq_true, f4, f6, f7, f12]
  refine brC_in (fun hlt => ?_) (fun hge => ?_)
  · have hj' : j < m.length := by simpa using hlt
    have hg : (m.map encObj)[j]? = some (encObj m[j]) := objE.get hj'
    have hw := wrap_succ hj' (by omega)
    have htake := filter_take (nmd names) m hj'
    have hbl : (bareF names (m.take j)).length ≤ 40 := by
      have := List.length_filter_le (nmd names) (m.take j)
      rw [List.length_take] at this
      unfold bareF
      omega
    simp only [pvZ, lz, nz, rr_one, upd_apply, upd_upd, initT, optI, splice, reduceIte, reduceCtorEq, Nat.reduceEqDiff, Nat.reduceAdd, Nat.reduceSub, Nat.reduceMul, Nat.reduceLeDiff, Nat.reduceLT, Int.reduceLT, Int.reduceLE, Int.reduceToNat, Int.reduceEq, Int.cast_ofNat_Int, and_true, not_false_eq_true, f4, f6, f7, f12, hg, id_obj]
    refine callS_quiet (spec12 names m[j].id (by omega)) ?_
    simp only [pvZ, lz, nz, rr_one, upd_apply, upd_upd, initT, optI, splice, reduceIte, reduceCtorEq, Nat.reduceEqDiff, Nat.reduceAdd, Nat.reduceSub, Nat.reduceMul, Nat.reduceLeDiff, Nat.reduceLT, Int.reduceLT, Int.reduceLE, Int.reduceToNat, Int.reduceEq, Int.cast_ofNat_Int, and_true, not_false_eq_true, f4, f6, f7, f12]
    refine brC_in (fun hn => ?_) (fun hn => ?_)
    · simp only [pvZ, lz, nz, rr_one, upd_apply, upd_upd, initT, optI, splice, reduceIte, reduceCtorEq, Nat.reduceEqDiff, Nat.reduceAdd, Nat.reduceSub, Nat.reduceMul, Nat.reduceLeDiff, Nat.reduceLT, Int.reduceLT, Int.reduceLE, Int.reduceToNat, Int.reduceEq, Int.cast_ofNat_Int, and_true, not_false_eq_true, f4, f6, f7, f12, hg, len_encObj, wh_encObj, st_encObj]
      refine app_in hk htok (by simp; omega) fun tok2 k2 hk2 htok2 => ?_
      simp only [pvZ, lz, nz, rr_one, upd_apply, upd_upd, initT, optI, splice, reduceIte, reduceCtorEq, Nat.reduceEqDiff, Nat.reduceAdd, Nat.reduceSub, Nat.reduceMul, Nat.reduceLeDiff, Nat.reduceLT, Int.reduceLT, Int.reduceLE, Int.reduceToNat, Int.reduceEq, Int.cast_ofNat_Int, and_true, not_false_eq_true, f4, f6, f7, f12, hw]
      have e : (bareF names (m.take (j + 1))).map encObj = (bareF names (m.take j)).map encObj ++ [encObj m[j]] := by
        unfold bareF
        rw [htake, show nmd names m[j] = true from hn]
        simp
      refine next_L hj' (tok2, k2) ?_ rfl (by (try simp only [TabLe_cons, TabLe_nil, tab_cons, tab_nil, upd_apply, Nat.reduceEqDiff, reduceIte, and_true]); repeat' (first | exact trivial | exact A.le_refl _ | exact le_strip_no _ _ _ | exact A.le_no _ _ _ | exact A.le_empty _ _ _ | refine And.intro ?_ ?_)) ⟨hk2, htok2⟩
      rw [e]
      exact SExt.refl _
    · simp only [pvZ, lz, nz, rr_one, upd_apply, upd_upd, initT, optI, splice, reduceIte, reduceCtorEq, Nat.reduceEqDiff, Nat.reduceAdd, Nat.reduceSub, Nat.reduceMul, Nat.reduceLeDiff, Nat.reduceLT, Int.reduceLT, Int.reduceLE, Int.reduceToNat, Int.reduceEq, Int.cast_ofNat_Int, and_true, not_false_eq_true, f4, f6, f7, f12, hw]
      have e : bareF names (m.take (j + 1)) = bareF names (m.take j) := by
        unfold bareF
        rw [htake, show nmd names m[j] = false from hn]
        simp
      refine next_L hj' (tok, k') ?_ rfl (by (try simp only [TabLe_cons, TabLe_nil, tab_cons, tab_nil, upd_apply, Nat.reduceEqDiff, reduceIte, and_true]); repeat' (first | exact trivial | exact A.le_refl _ | exact le_strip_no _ _ _ | exact A.le_no _ _ _ | exact A.le_empty _ _ _ | refine And.intro ?_ ?_)) ⟨hk, htok⟩
      rw [e]
      exact SExt.refl _
  · have hje : j = m.length := by simp at hge; omega
    subst hje
    rw [List.take_length]
    have hbare : ∀ s k, Spec prg 8 [.agg [(A.sl 6 ((bareF names m).map encObj) tok).strip], .sl 15 (l.map encEdit) .no, .agg [.int .i64 kd, .sl 1 (es.map encInt) .no]] s k (.bool (acceptF m l ⟨kd, es⟩)) s k := by
      intro s k
      have hmem : ∀ o ∈ bareF names m, o ∈ m := fun o ho => (List.mem_filter.1 ho).1
      have hlen : (bareF names m).length ≤ m.length := List.length_filter_le _ _
      have := h8 (bareF names m) l s k (by omega) (fun o ho => by have := b4 o (hmem o ho); omega) (by omega) (fun o ho => by have := b5 o ho; omega)
      rw [← hN, accept_bare, hN] at this
      exact Spec.args this (.cons (A.le_agg (.cons (le_strip_no _ _ _) .nil)) (.cons (A.le_refl _) (.cons (A.le_refl _) .nil)))
    simp only [pvZ, lz, nz, rr_one, upd_apply, upd_upd, initT, optI, splice, reduceIte, reduceCtorEq, Nat.reduceEqDiff, Nat.reduceAdd, Nat.reduceSub, Nat.reduceMul, Nat.reduceLeDiff, Nat.reduceLT, Int.reduceLT, Int.reduceLE, Int.reduceToNat, Int.reduceEq, Int.cast_ofNat_Int, and_true, not_false_eq_true, f4, f6, f7, f12]
    refine callS_quiet (hbare _ _) ?_
    simp only [pvZ, lz, nz, rr_one, upd_apply, upd_upd, initT, optI, splice, reduceIte, reduceCtorEq, Nat.reduceEqDiff, Nat.reduceAdd, Nat.reduceSub, Nat.reduceMul, Nat.reduceLeDiff, Nat.reduceLT, Int.reduceLT, Int.reduceLE, Int.reduceToNat, Int.reduceEq, Int.cast_ofNat_Int, and_true, not_false_eq_true, f4, f6, f7, f12]
    refine loop_L (α := Unit) l.length (fun j _ => [(1, .sl 15 (l.map encEdit) .no), (4, .ptr i4 0), (6, .ptr i6 0), (7, .ptr i7 0), (9, .bool true), (10, .bool (acceptF m l ⟨kd, es⟩)), (14, .bool ((l.take j).all harmlessE)), (15, .int .i64 j)])
      (fun j p => upd (upd (upd s i4 (some (.cells [.sl 6 (m.map encObj) .no]))) i6 (some (.cells [.int .i64 kd, .sl 1 (es.map encInt) .no]))) i7 (some (.cells (encEdit x)))) (fun _ _ => k') (fun _ _ => True) () (by repeat (first | exact SExt.refl _ | (refine SExt.old ?_ (by first | (simp only [*]; done) | (simp only [upd_none]; assumption) | (simp only [upd_none, *, not_false_eq_true, and_self]; done)) _))) rfl (by (try simp only [TabLe_cons, TabLe_nil, tab_cons, tab_nil, upd_apply, Nat.reduceEqDiff, reduceIte, and_true]); repeat' (first | exact trivial | exact A.le_refl _ | exact le_strip_no _ _ _ | exact A.le_no _ _ _ | exact A.le_empty _ _ _ | refine And.intro ?_ ?_)) trivial ?_
    rintro j ⟨⟩ hj -
    try dsimp only
    simp only [pvZ, lz, nz, rr_one, upd_apply, upd_upd, initT, optI, splice, reduceIte, reduceCtorEq, Nat.reduceEqDiff, Nat.reduceAdd, Nat.reduceSub, Nat.reduceMul, Nat.reduceLeDiff, Nat.reduceLT, Int.reduceLT, Int.reduceLE, Int.reduceToNat, Int.reduceEq, Int.cast_ofNat_Int, and_true, not_false_eq_true]
    refine brC_in (fun hlt => ?_) (fun hge => ?_)
    · have hj' : j < l.length := by simpa using hlt
      have hg : (l.map encEdit)[j]? = some (encEdit l[j]) := editE.get hj'
      have hw := wrap_succ hj' (by omega)
      have htake := all_take harmlessE l hj'
      cases h0 : (l.take j).all harmlessE
      · simp only [pvZ, lz, nz, rr_one, upd_apply, upd_upd, initT, optI, splice, reduceIte, reduceCtorEq, Nat.reduceEqDiff, Nat.reduceAdd, Nat.reduceSub, Nat.reduceMul, Nat.reduceLeDiff, Nat.reduceLT, Int.reduceLT, Int.reduceLE, Int.reduceToNat, Int.reduceEq, Int.cast_ofNat_Int, and_true, not_false_eq_true, hg, op_edit, hw, h0]
        refine next_L hj' () (SExt.refl _) rfl ?_ trivial
        rw [htake, h0]
        exact (by (try simp only [TabLe_cons, TabLe_nil, tab_cons, tab_nil, upd_apply, Nat.reduceEqDiff, reduceIte, and_true]); repeat' (first | exact trivial | exact A.le_refl _ | exact le_strip_no _ _ _ | exact A.le_no _ _ _ | exact A.le_empty _ _ _ | refine And.intro ?_ ?_))
      · rw [h0, Bool.true_and] at htake
        have hhe : harmlessE l[j] = (!decide (l[j].op = 5) && !decide (l[j].op = 3) && !decide (l[j].op = 2) && !decide (l[j].op = 1)) := rfl
        rw [hhe] at htake
        repeat' (first | (first | (with_reducible refine newS_in ?_; intro _ hid_; simp only [upd_none] at hid_) | (with_reducible refine newR_in ?_; intro _ hid_ hih_; simp only [upd_none, upd_none', rr_eqs2, and_true] at hid_ hih_) | (with_reducible refine mkmS_in ?_; intro _ hid_; simp only [upd_none] at hid_)) | (with_reducible refine brC_in (fun h_ => ?_) (fun h_ => ?_)) | (with_reducible refine brG_in (fun h_ => ?_) (fun h_ => ?_)) | (with_reducible refine brN_in (fun h_ => ?_) (fun h_ => ?_)) | simp only [pvZ, lz, nz, rr_one, upd_apply, upd_upd, initT, optI, splice, reduceIte, reduceCtorEq, Nat.reduceEqDiff, Nat.reduceAdd, Nat.reduceSub, Nat.reduceMul, Nat.reduceLeDiff, Nat.reduceLT, Int.reduceLT, Int.reduceLE, Int.reduceToNat, Int.reduceEq, Int.cast_ofNat_Int, and_true, not_false_eq_true, *, hg, op_edit, hw, h0, -b4, -b5, -h8, -hbare, -htake])
        all_goals
          refine next_L hj' () (SExt.refl _) rfl ?_ trivial
          rw [htake]
          simp only [*, Bool.not_false, Bool.not_true, Bool.and_true, Bool.true_and, Bool.false_and, Bool.and_false]
          exact (by (try simp only [TabLe_cons, TabLe_nil, tab_cons, tab_nil, upd_apply, Nat.reduceEqDiff, reduceIte, and_true]); repeat' (first | exact trivial | exact A.le_refl _ | exact le_strip_no _ _ _ | exact A.le_no _ _ _ | exact A.le_empty _ _ _ | refine And.intro ?_ ?_))
    · have hje : j = l.length := by simp at hge; omega
      subst hje
      rw [List.take_length]
      have hah : ((l.all harmlessE) && acceptF m l ⟨kd, es⟩) = false := by
        cases ha : l.all harmlessE
        · rfl
        · rw [accept_harmless m l _ ha]; rfl
      generalize hacc : acceptF m l ⟨kd, es⟩ = acc at hah hbare
      generalize l.all harmlessE = hal at hah
      have hor : (hal = false) ∨ (hal = true ∧ acc = false) := by cases hal <;> simp_all
      have hmore : ∀ (hk1 : kd ≠ 1) (hin : es.all (fun i => decide (i < (l.length : Int))) = true) (tk : Tok) s k, Spec prg 8 [.agg [.sl 6 (m.map encObj) .no], (A.sl 15 (l.map encEdit ++ [encEdit x]) tk).strip, .agg [.int .i64 kd, .sl 1 (es.map encInt) .no]] s k (.bool acc) s k := by
        intro hk1 hin tk s k
        have hxt : x.obj.tags.length ≤ 20 := by
          simp only [fewE, Bool.and_eq_true, Bool.not_eq_true', decide_eq_false_iff_not] at hx
          have := hx.1.2
          omega
        have := h8 m (l ++ [x]) s k (by omega) (fun o ho => by have := b4 o ho; omega) (by simp; omega) (fun o ho => by
          rcases List.mem_append.1 ho with h | h
          · have := b5 o h; omega
          · rw [List.mem_singleton.1 h]; omega)
        rw [accept_more m l x kd es hk1 (fun i hi => by simpa using List.all_eq_true.1 hin i hi), hacc, List.map_append] at this
        exact Spec.args this (.cons (A.le_refl _) (.cons (le_strip_no _ _ _) (.cons (A.le_refl _) .nil)))
      rcases hor with rfl | ⟨rfl, h0⟩
      all_goals simp only [pvZ, lz, nz, rr_one, upd_apply, upd_upd, initT, optI, splice, reduceIte, reduceCtorEq, Nat.reduceEqDiff, Nat.reduceAdd, Nat.reduceSub, Nat.reduceMul, Nat.reduceLeDiff, Nat.reduceLT, Int.reduceLT, Int.reduceLE, Int.reduceToNat, Int.reduceEq, Int.cast_ofNat_Int, and_true, not_false_eq_true, f4, f6, f7]
      all_goals try ((with_reducible refine brC_in (fun h => by rw [h0] at h; cases h) (fun _ => ?_)); simp only [pvZ, lz, nz, rr_one, upd_apply, upd_upd, initT, optI, splice, reduceIte, reduceCtorEq, Nat.reduceEqDiff, Nat.reduceAdd, Nat.reduceSub, Nat.reduceMul, Nat.reduceLeDiff, Nat.reduceLT, Int.reduceLT, Int.reduceLE, Int.reduceToNat, Int.reduceEq, Int.cast_ofNat_Int, and_true, not_false_eq_true, f4, f6, f7])
      all_goals
        refine app_in hk (.inr (.inl rfl)) (by simp; omega) fun tok2 k2 hk2 htok2 => ?_
        simp only [pvZ, lz, nz, rr_one, upd_apply, upd_upd, initT, optI, splice, reduceIte, reduceCtorEq, Nat.reduceEqDiff, Nat.reduceAdd, Nat.reduceSub, Nat.reduceMul, Nat.reduceLeDiff, Nat.reduceLT, Int.reduceLT, Int.reduceLE, Int.reduceToNat, Int.reduceEq, Int.cast_ofNat_Int, and_true, not_false_eq_true, f4, f6, f7, len_encEdit, wh_encEdit, st_encEdit]
        refine app_in hk2 htok2 (by simp; omega) fun tok3 k3 hk3 htok3 => ?_
        simp only [pvZ, lz, nz, rr_one, upd_apply, upd_upd, initT, optI, splice, reduceIte, reduceCtorEq, Nat.reduceEqDiff, Nat.reduceAdd, Nat.reduceSub, Nat.reduceMul, Nat.reduceLeDiff, Nat.reduceLT, Int.reduceLT, Int.reduceLE, Int.reduceToNat, Int.reduceEq, Int.cast_ofNat_Int, and_true, not_false_eq_true, f4, f6, f7]
        refine loop_L (α := Unit) es.length (fun j _ => [(4, .ptr i4 0), (6, .ptr i6 0), (1, .sl 15 (l.map encEdit) .no), (9, .bool true), (10, .bool acc), (16, .sl 15 (l.map encEdit ++ [encEdit x]) tok3), (17, .bool ((es.take j).all fun i => decide (i < (l.length : Int)))), (18, .int .i64 j)])
          (fun j p => upd (upd (upd s i4 (some (.cells [.sl 6 (m.map encObj) .no]))) i6 (some (.cells [.int .i64 kd, .sl 1 (es.map encInt) .no]))) i7 (some (.cells (encEdit x)))) (fun _ _ => k3) (fun _ _ => True) () (by repeat (first | exact SExt.refl _ | (refine SExt.old ?_ (by first | (simp only [*]; done) | (simp only [upd_none]; assumption) | (simp only [upd_none, *, not_false_eq_true, and_self]; done)) _))) rfl (by (try simp only [TabLe_cons, TabLe_nil, tab_cons, tab_nil, upd_apply, Nat.reduceEqDiff, reduceIte, and_true]); repeat' (first | exact trivial | exact A.le_refl _ | exact le_strip_no _ _ _ | exact A.le_no _ _ _ | exact A.le_empty _ _ _ | refine And.intro ?_ ?_)) trivial ?_
        rintro j ⟨⟩ hj -
        try dsimp only
        simp only [pvZ, lz, nz, rr_one, upd_apply, upd_upd, initT, optI, splice, reduceIte, reduceCtorEq, Nat.reduceEqDiff, Nat.reduceAdd, Nat.reduceSub, Nat.reduceMul, Nat.reduceLeDiff, Nat.reduceLT, Int.reduceLT, Int.reduceLE, Int.reduceToNat, Int.reduceEq, Int.cast_ofNat_Int, and_true, not_false_eq_true, f4, f6, f7]
        refine brC_in (fun hlt => ?_) (fun hge => ?_)
        · have hj' : j < es.length := by simpa using hlt
          have hg : (es.map encInt)[j]? = some (encInt es[j]) := intE.get hj'
          have hw := wrap_succ hj' (by omega)
          have htake := all_take (fun i => decide (i < (l.length : Int))) es hj'
          cases h0 : (es.take j).all (fun i => decide (i < (l.length : Int)))
          · simp only [pvZ, lz, nz, rr_one, upd_apply, upd_upd, initT, optI, splice, reduceIte, reduceCtorEq, Nat.reduceEqDiff, Nat.reduceAdd, Nat.reduceSub, Nat.reduceMul, Nat.reduceLeDiff, Nat.reduceLT, Int.reduceLT, Int.reduceLE, Int.reduceToNat, Int.reduceEq, Int.cast_ofNat_Int, and_true, not_false_eq_true, hw, h0]
            refine next_L hj' () (SExt.refl _) rfl ?_ trivial
            rw [htake, h0]
            exact (by (try simp only [TabLe_cons, TabLe_nil, tab_cons, tab_nil, upd_apply, Nat.reduceEqDiff, reduceIte, and_true]); repeat' (first | exact trivial | exact A.le_refl _ | exact le_strip_no _ _ _ | exact A.le_no _ _ _ | exact A.le_empty _ _ _ | refine And.intro ?_ ?_))
          · rw [h0, Bool.true_and] at htake
            simp only [pvZ, lz, nz, rr_one, upd_apply, upd_upd, initT, optI, splice, reduceIte, reduceCtorEq, Nat.reduceEqDiff, Nat.reduceAdd, Nat.reduceSub, Nat.reduceMul, Nat.reduceLeDiff, Nat.reduceLT, Int.reduceLT, Int.reduceLE, Int.reduceToNat, Int.reduceEq, Int.cast_ofNat_Int, and_true, not_false_eq_true, f4, f6, f7, hg, encInt, hw, h0]
            refine next_L hj' () (SExt.refl _) rfl ?_ trivial
            rw [htake]
            exact (by (try simp only [TabLe_cons, TabLe_nil, tab_cons, tab_nil, upd_apply, Nat.reduceEqDiff, reduceIte, and_true]); repeat' (first | exact trivial | exact A.le_refl _ | exact le_strip_no _ _ _ | exact A.le_no _ _ _ | exact A.le_empty _ _ _ | refine And.intro ?_ ?_))
        · have hje : j = es.length := by simp at hge; omega
          subst hje
          rw [List.take_length]
          by_cases hk1 : kd = 1
          · simp only [pvZ, lz, nz, rr_one, upd_apply, upd_upd, initT, optI, splice, reduceIte, reduceCtorEq, Nat.reduceEqDiff, Nat.reduceAdd, Nat.reduceSub, Nat.reduceMul, Nat.reduceLeDiff, Nat.reduceLT, Int.reduceLT, Int.reduceLE, Int.reduceToNat, Int.reduceEq, Int.cast_ofNat_Int, and_true, not_false_eq_true, f4, f6, f7, hk1]
            exact OutQ.eqk (by repeat (first | exact SExt.refl _ | (refine SExt.old ?_ (by first | (simp only [*]; done) | (simp only [upd_none]; assumption) | (simp only [upd_none, *, not_false_eq_true, and_self]; done)) _))) hk3 rfl
          · cases hin : es.all (fun i => decide (i < (l.length : Int)))
            · simp only [pvZ, lz, nz, rr_one, upd_apply, upd_upd, initT, optI, splice, reduceIte, reduceCtorEq, Nat.reduceEqDiff, Nat.reduceAdd, Nat.reduceSub, Nat.reduceMul, Nat.reduceLeDiff, Nat.reduceLT, Int.reduceLT, Int.reduceLE, Int.reduceToNat, Int.reduceEq, Int.cast_ofNat_Int, and_true, not_false_eq_true, f4, f6, f7, hk1]
              exact OutQ.eqk (by repeat (first | exact SExt.refl _ | (refine SExt.old ?_ (by first | (simp only [*]; done) | (simp only [upd_none]; assumption) | (simp only [upd_none, *, not_false_eq_true, and_self]; done)) _))) hk3 rfl
            · simp only [pvZ, lz, nz, rr_one, upd_apply, upd_upd, initT, optI, splice, reduceIte, reduceCtorEq, Nat.reduceEqDiff, Nat.reduceAdd, Nat.reduceSub, Nat.reduceMul, Nat.reduceLeDiff, Nat.reduceLT, Int.reduceLT, Int.reduceLE, Int.reduceToNat, Int.reduceEq, Int.cast_ofNat_Int, and_true, not_false_eq_true, f4, f6, f7, hk1]
              refine callS_quiet (hmore hk1 hin _ _ _) ?_
              simp only [pvZ, lz, nz, rr_one, upd_apply, upd_upd, initT, optI, splice, reduceIte, reduceCtorEq, Nat.reduceEqDiff, Nat.reduceAdd, Nat.reduceSub, Nat.reduceMul, Nat.reduceLeDiff, Nat.reduceLT, Int.reduceLT, Int.reduceLE, Int.reduceToNat, Int.reduceEq, Int.cast_ofNat_Int, and_true, not_false_eq_true, f4, f6, f7, hk1]
              refine OutQ.eqk (by repeat (first | exact SExt.refl _ | (refine SExt.old ?_ (by first | (simp only [*]; done) | (simp only [upd_none]; assumption) | (simp only [upd_none, *, not_false_eq_true, and_self]; done)) _))) hk3 ?_
              simp
end Go.Pv
