/- The reference's closed maps. -/
import Derived.Test.YtgmdhegbkbeihaaGreatRefA
import Derived.Test.YtgmdhegbkbeihaaGreatEvJ
import Derived.Test.YtgmdhegbkbeihaaGreatVfP
import Derived.Test.YtgmdhegbkbeihaaGreatFstB
set_option linter.unusedVariables false
set_option linter.unusedSimpArgs false
set_option maxRecDepth 4000
set_option maxHeartbeats 4000000
namespace Go.Pv
open Go

theorem bl_irrefl : ∀ x : List UInt8, Op.bytesLess x x = false
  | [] => rfl
  | a :: x => by
    have hl : decide (a < a) = false := decide_eq_false (UInt8.lt_irrefl a)
    unfold Op.bytesLess
    rw [hl, bl_irrefl x]
    simp
theorem bl_trans : ∀ x y z : List UInt8, Op.bytesLess x y = true → Op.bytesLess y z = true → Op.bytesLess x z = true
  | x, [], z, h, _ => by cases x <;> simp [Op.bytesLess] at h
  | x, b :: y, [], _, h => by simp [Op.bytesLess] at h
  | [], b :: y, c :: z, _, _ => rfl
  | a :: x, b :: y, c :: z, h1, h2 => by
    unfold Op.bytesLess at h1 h2 ⊢
    simp only [Bool.or_eq_true, Bool.and_eq_true, decide_eq_true_eq, beq_iff_eq] at h1 h2 ⊢
    rcases h1 with h1 | ⟨h1, h1'⟩
    · rcases h2 with h2 | ⟨h2, _⟩
      · exact .inl (UInt8.lt_trans h1 h2)
      · subst h2; exact .inl h1
    · subst h1
      rcases h2 with h2 | ⟨h2, h2'⟩
      · exact .inl h2
      · exact .inr ⟨h2, bl_trans x y z h1' h2'⟩
theorem le_false {a b : ByteArray} (h : leS b a = false) : ltS a b = true := by
  have := lt_total a b
  rw [h] at this
  simpa using this
theorem chain_lt : ∀ {l : List Obj} {a : ByteArray}, chain inMap Obj.id a l = true → (∀ o ∈ l, ltS a o.id = true) ∧ l.Pairwise fun o p => ltS o.id p.id = true
  | [], _, _ => ⟨fun o h => (by cases h), .nil⟩
  | x :: l, a, h => by
    simp only [chain, Bool.and_eq_true] at h
    obtain ⟨h1, h2⟩ := h
    obtain ⟨g1, g2⟩ := chain_lt h2
    unfold inMap at h1
    simp only [Bool.and_eq_true, Bool.not_eq_true'] at h1
    have hx := le_false h1.2
    refine ⟨fun o ho => ?_, List.pairwise_cons.2 ⟨g1, g2⟩⟩
    rcases List.mem_cons.1 ho with rfl | ho
    · exact hx
    · exact bl_trans _ _ _ hx (g1 o ho)
theorem map_ids {m : List Obj} (h : mapV m = true) : m.Pairwise fun o p => o.id ≠ p.id := by
  unfold mapV at h
  rw [Bool.and_eq_true] at h
  refine (chain_lt h.1).2.imp fun {o p} hl e => ?_
  rw [e] at hl
  unfold ltS at hl
  rw [bl_irrefl] at hl
  cases hl
theorem look_kind (r : ByteArray) : ∀ (l : List Obj) (M : List (ByteArray × Int)), (l.Pairwise fun o p => o.id ≠ p.id) → lookM r (kindM l M) = match l.find? (fun o => decide (o.id = r)) with
    | some o => some o.kind
    | none => lookM r M
  | [], M, _ => rfl
  | x :: l, M, h => by
    obtain ⟨h1, h2⟩ := List.pairwise_cons.1 h
    simp only [kindM]
    rw [look_kind r l _ h2, List.find?_cons]
    by_cases c : x.id = r
    · have hn : l.find? (fun o => decide (o.id = r)) = none := by
        rw [List.find?_eq_none]
        intro o ho
        have := h1 o ho
        rw [c] at this
        simp only [decide_eq_true_eq]
        exact fun e => this e.symm
      rw [hn, decide_eq_true c]
      dsimp only
      rw [lookM_set, if_pos c.symm]
    · rw [decide_eq_false c]
      dsimp only
      rw [lookM_set, if_neg (fun e => c e.symm)]
theorem spec_wantedr (kind i : Int) {s : Nat → Option Blk} {k : Nat → Tk} : Spec prg 94 [.int .i64 kind, .int .i64 i] s k (.int .i64 (wantK kind i)) s k := by
  refine spec_tr prg_mixed tr_pref21_Wanted (Nat.le_of_ble_eq_true rfl) rfl ?_
  unfold pc_pref21_Wanted rs_pref21_Wanted
  repeat' (first | (first | (with_reducible refine newS_in ?_; intro _ hid_; simp only [upd_none] at hid_) | (with_reducible refine newR_in ?_; intro _ hid_ hih_; simp only [upd_none, upd_none', rr_eqs2, and_true] at hid_ hih_) | (with_reducible refine mkmS_in ?_; intro _ hid_; simp only [upd_none] at hid_)) | (with_reducible refine brC_in (fun h_ => ?_) (fun h_ => ?_)) | (with_reducible refine brG_in (fun h_ => ?_) (fun h_ => ?_)) | (with_reducible refine brN_in (fun h_ => ?_) (fun h_ => ?_)) | simp only [sZ, initT, optI, splice, reduceIte, reduceCtorEq, Nat.reduceEqDiff, Nat.reduceAdd, Nat.reduceSub, Nat.reduceMul, Nat.reduceLeDiff, Nat.reduceLT, Int.reduceLT, Int.reduceLE, Int.reduceToNat, Int.reduceEq, Int.cast_ofNat_Int, *])
  all_goals refine OutQ.eq (by repeat (first | exact SExt.refl _ | (refine SExt.old ?_ (by first | (simp only [*]; done) | (simp only [upd_none]; assumption) | (simp only [upd_none, *, not_false_eq_true, and_self]; done)) _))) ?_
  all_goals (simp only [wantK, *, Bool.true_or, Bool.false_or, Bool.true_and, Bool.false_and, cond_true, cond_false])
theorem errAt_find {m : List Obj} (hm : mapV m = true) (kind : Int) (refs : List ByteArray) {i : Nat} (hi : i < refs.length) :
    (idxOf (fun o : Obj => decide (o.id = refs[i])) m = -1 ∧ errAt (kindM m []) kind refs i = 14) ∨ ∃ (q : Nat) (hq : q < m.length), idxOf (fun o : Obj => decide (o.id = refs[i])) m = q ∧ errAt (kindM m []) kind refs i = cond (!decide (m[q].kind = wantK kind i)) 13 0 := by
  have hgd : refs.getD i ⟨#[]⟩ = refs[i] := by rw [List.getD_eq_getElem?_getD, List.getElem?_eq_getElem hi]; rfl
  have hlk := look_kind refs[i] m [] (map_ids hm)
  unfold errAt lookK
  rw [hgd, hlk]
  rcases idxOf_cases (fun o : Obj => decide (o.id = refs[i])) m with ⟨g1, g2⟩ | ⟨q, hq, g1, g2⟩
  · rw [g2]
    exact .inl ⟨g1, rfl⟩
  · rw [g2]
    exact .inr ⟨q, hq, g1, rfl⟩
theorem spec_refs21 (m : List Obj) (o : Obj) (hm : mapV m = true) (hl : m.length < 4611686018427387904) (hr : o.refs.length < 4611686018427387904) {s : Nat → Option Blk} {k : Nat → Tk} : Spec prg 51 [.agg (encMap m), .agg (encObj o)] s k (.int .i64 (refsE (kindM m []) o.kind o.refs)) s k := by
  refine spec_tr prg_mixed tr_pref21_refs (Nat.le_of_ble_eq_true rfl) rfl ?_
  unfold pc_pref21_refs rs_pref21_refs
  have hfd := fun i s k => @spec_findr m i hl s k
  obtain ⟨id, kind, x, y, refs, tags⟩ := o
  dsimp only at hr
  simp only [encMap] at hfd
  simp only [sZ, initT, optI, splice, reduceIte, reduceCtorEq, Nat.reduceEqDiff, Nat.reduceAdd, Nat.reduceSub, Nat.reduceMul, Nat.reduceLeDiff, Nat.reduceLT, Int.reduceLT, Int.reduceLE, Int.reduceToNat, Int.reduceEq, Int.cast_ofNat_Int, encMap]
  (with_reducible refine newS_in ?_); intro b2 f2; simp only [upd_none] at f2
  simp only [sZ, initT, optI, splice, reduceIte, reduceCtorEq, Nat.reduceEqDiff, Nat.reduceAdd, Nat.reduceSub, Nat.reduceMul, Nat.reduceLeDiff, Nat.reduceLT, Int.reduceLT, Int.reduceLE, Int.reduceToNat, Int.reduceEq, Int.cast_ofNat_Int, f2, encObj]
  (with_reducible refine newS_in ?_); intro b3 f3; simp only [upd_none] at f3
  simp only [sZ, initT, optI, splice, reduceIte, reduceCtorEq, Nat.reduceEqDiff, Nat.reduceAdd, Nat.reduceSub, Nat.reduceMul, Nat.reduceLeDiff, Nat.reduceLT, Int.reduceLT, Int.reduceLE, Int.reduceToNat, Int.reduceEq, Int.cast_ofNat_Int, f2, f3]
  refine loop_L (α := Unit) refs.length (fun j _ => [(2, .ptr b2 0), (3, .ptr b3 0), (5, .int .i64 j)]) (fun j _ => upd (upd s b2 (some (.cells [.sl 6 (m.map encObj) .no]))) b3 (some (.cells [.str id, .int .i64 kind, .int .i64 x, .int .i64 y, .sl 1 (refs.map encStr) .no, .sl 2 (tags.map encTag) .no]))) (fun _ _ => k) (fun j _ => ∀ i, i < j → errAt (kindM m []) kind refs i = 0) () (SExt.refl _) rfl (by (try simp only [TabLe_cons, TabLe_nil, tab_cons, tab_nil, upd_apply, Nat.reduceEqDiff, reduceIte, and_true]); repeat' (first | exact trivial | exact A.le_refl _ | exact le_strip_no _ _ _ | exact A.le_no _ _ _ | exact A.le_empty _ _ _ | refine And.intro ?_ ?_)) (fun i h => by omega) ?_
  rintro j ⟨⟩ hj hall
  try dsimp only
  simp only [sZ, initT, optI, splice, reduceIte, reduceCtorEq, Nat.reduceEqDiff, Nat.reduceAdd, Nat.reduceSub, Nat.reduceMul, Nat.reduceLeDiff, Nat.reduceLT, Int.reduceLT, Int.reduceLE, Int.reduceToNat, Int.reduceEq, Int.cast_ofNat_Int, f2, f3]
  refine brC_in (fun hlt => ?_) (fun hge => ?_)
  · have hj' : j < refs.length := by have := of_decide_eq_true hlt; omega
    clear hlt
    have hw := wrap_succ hj' (by omega)
    have hg : (refs.map encStr)[j]? = some (encStr refs[j]) := strE.get hj'
    have hhit : errAt (kindM m []) kind refs j ≠ 0 → refsE (kindM m []) kind refs = errAt (kindM m []) kind refs j := fun h => by
      unfold refsE
      exact firstNZ_hit hj' hall h
    simp only [sZ, initT, optI, splice, reduceIte, reduceCtorEq, Nat.reduceEqDiff, Nat.reduceAdd, Nat.reduceSub, Nat.reduceMul, Nat.reduceLeDiff, Nat.reduceLT, Int.reduceLT, Int.reduceLE, Int.reduceToNat, Int.reduceEq, Int.cast_ofNat_Int, f2, f3, hg, get_str]
    refine callQS_quiet (hfd _ _ _) ?_
    rcases errAt_find hm kind refs hj' with ⟨g1, g2⟩ | ⟨q, hq, g1, g2⟩
    · rw [hhit (by rw [g2]; decide), g2, g1]
      simp only [sZ, initT, optI, splice, reduceIte, reduceCtorEq, Nat.reduceEqDiff, Nat.reduceAdd, Nat.reduceSub, Nat.reduceMul, Nat.reduceLeDiff, Nat.reduceLT, Int.reduceLT, Int.reduceLE, Int.reduceToNat, Int.reduceEq, Int.cast_ofNat_Int, f2, f3]
      refine OutQ.eq (by repeat (first | exact SExt.refl _ | (refine SExt.old ?_ (by first | (simp only [*]; done) | (simp only [upd_none]; assumption) | (simp only [upd_none, *, not_false_eq_true, and_self]; done)) _))) rfl
    · have e1 : decide ((q : Int) < 0) = false := decide_eq_false (by omega)
      have q1 : (0 : Int) ≤ (q : Int) := by omega
      have q2 : (q : Int) < (m.length : Int) := by omega
      have hgq : (m.map encObj)[q]? = some (encObj m[q]) := objE.get hq
      have hkq : (encObj m[q])[1]? = some (.int .i64 m[q].kind) := rfl
      rw [g1]
      simp only [sZ, initT, optI, splice, reduceIte, reduceCtorEq, Nat.reduceEqDiff, Nat.reduceAdd, Nat.reduceSub, Nat.reduceMul, Nat.reduceLeDiff, Nat.reduceLT, Int.reduceLT, Int.reduceLE, Int.reduceToNat, Int.reduceEq, Int.cast_ofNat_Int, f2, f3, e1, q1, q2, hgq, hkq, Int.toNat_natCast]
      refine callQS_quiet (spec_wantedr kind j) ?_
      cases hd : decide (m[q].kind = wantK kind j)
      · rw [hd] at g2
        rw [hhit (by rw [g2]; decide), g2]
        simp only [sZ, initT, optI, splice, reduceIte, reduceCtorEq, Nat.reduceEqDiff, Nat.reduceAdd, Nat.reduceSub, Nat.reduceMul, Nat.reduceLeDiff, Nat.reduceLT, Int.reduceLT, Int.reduceLE, Int.reduceToNat, Int.reduceEq, Int.cast_ofNat_Int, f2, f3, hd, Bool.not_false]
        refine OutQ.eq (by repeat (first | exact SExt.refl _ | (refine SExt.old ?_ (by first | (simp only [*]; done) | (simp only [upd_none]; assumption) | (simp only [upd_none, *, not_false_eq_true, and_self]; done)) _))) rfl
      · rw [hd] at g2
        simp only [sZ, initT, optI, splice, reduceIte, reduceCtorEq, Nat.reduceEqDiff, Nat.reduceAdd, Nat.reduceSub, Nat.reduceMul, Nat.reduceLeDiff, Nat.reduceLT, Int.reduceLT, Int.reduceLE, Int.reduceToNat, Int.reduceEq, Int.cast_ofNat_Int, f2, f3, hd, Bool.not_true, hw]
        refine next_L hj' () (SExt.refl _) rfl (by (try simp only [TabLe_cons, TabLe_nil, tab_cons, tab_nil, upd_apply, Nat.reduceEqDiff, reduceIte, and_true]); repeat' (first | exact trivial | exact A.le_refl _ | exact le_strip_no _ _ _ | exact A.le_no _ _ _ | exact A.le_empty _ _ _ | refine And.intro ?_ ?_)) fun i hi => ?_
        by_cases hij : i = j
        · subst hij; exact g2
        · exact hall i (by omega)
  · have hje : j = refs.length := by have := of_decide_eq_false hge; omega
    subst hje
    have : refsE (kindM m []) kind refs = 0 := by unfold refsE; exact firstNZ_none hall
    rw [this]
    simp only [sZ, initT, optI, splice, reduceIte, reduceCtorEq, Nat.reduceEqDiff, Nat.reduceAdd, Nat.reduceSub, Nat.reduceMul, Nat.reduceLeDiff, Nat.reduceLT, Int.reduceLT, Int.reduceLE, Int.reduceToNat, Int.reduceEq, Int.cast_ofNat_Int]
    refine OutQ.eq (by repeat (first | exact SExt.refl _ | (refine SExt.old ?_ (by first | (simp only [*]; done) | (simp only [upd_none]; assumption) | (simp only [upd_none, *, not_false_eq_true, and_self]; done)) _))) rfl
theorem spec_closed21 (m : List Obj) (hm : MapFit m) {s : Nat → Option Blk} {k : Nat → Tk} : Spec prg 23 [.agg (encMap m)] s k (.bool (closedF m)) s k := by
  refine spec_tr prg_mixed tr_pref21_Closed (Nat.le_of_ble_eq_true rfl) rfl ?_
  unfold pc_pref21_Closed rs_pref21_Closed
  have hv := fun s k => @spec_mapr m hm s k
  have hrf := fun (h : mapV m = true) (o : Obj) (ho : o ∈ m) s k => @spec_refs21 m o h hm.len (hm.obj o ho).refs s k
  have hl := hm.len
  simp only [encMap] at hv hrf
  simp only [sZ, initT, optI, splice, reduceIte, reduceCtorEq, Nat.reduceEqDiff, Nat.reduceAdd, Nat.reduceSub, Nat.reduceMul, Nat.reduceLeDiff, Nat.reduceLT, Int.reduceLT, Int.reduceLE, Int.reduceToNat, Int.reduceEq, Int.cast_ofNat_Int, encMap]
  (with_reducible refine newS_in ?_); intro b1 f1; simp only [upd_none] at f1
  simp only [sZ, initT, optI, splice, reduceIte, reduceCtorEq, Nat.reduceEqDiff, Nat.reduceAdd, Nat.reduceSub, Nat.reduceMul, Nat.reduceLeDiff, Nat.reduceLT, Int.reduceLT, Int.reduceLE, Int.reduceToNat, Int.reduceEq, Int.cast_ofNat_Int, f1]
  refine callS_quiet (hv _ _) ?_
  cases hvm : mapV m
  · have : closedF m = false := by unfold closedF; rw [hvm]; rfl
    rw [this]
    simp only [sZ, initT, optI, splice, reduceIte, reduceCtorEq, Nat.reduceEqDiff, Nat.reduceAdd, Nat.reduceSub, Nat.reduceMul, Nat.reduceLeDiff, Nat.reduceLT, Int.reduceLT, Int.reduceLE, Int.reduceToNat, Int.reduceEq, Int.cast_ofNat_Int, f1, Bool.not_false]
    refine OutQ.eq (by repeat (first | exact SExt.refl _ | (refine SExt.old ?_ (by first | (simp only [*]; done) | (simp only [upd_none]; assumption) | (simp only [upd_none, *, not_false_eq_true, and_self]; done)) _))) rfl
  simp only [sZ, initT, optI, splice, reduceIte, reduceCtorEq, Nat.reduceEqDiff, Nat.reduceAdd, Nat.reduceSub, Nat.reduceMul, Nat.reduceLeDiff, Nat.reduceLT, Int.reduceLT, Int.reduceLE, Int.reduceToNat, Int.reduceEq, Int.cast_ofNat_Int, f1, Bool.not_true]
  refine loop_L (α := Unit) m.length (fun j _ => [(1, .ptr b1 0), (3, .int .i64 j)]) (fun j _ => upd s b1 (some (.cells [.sl 6 (m.map encObj) .no]))) (fun _ _ => k) (fun j _ => ∀ i (h : i < m.length), i < j → refsE (kindM m []) m[i].kind m[i].refs = 0) () (SExt.refl _) rfl (by (try simp only [TabLe_cons, TabLe_nil, tab_cons, tab_nil, upd_apply, Nat.reduceEqDiff, reduceIte, and_true]); repeat' (first | exact trivial | exact A.le_refl _ | exact le_strip_no _ _ _ | exact A.le_no _ _ _ | exact A.le_empty _ _ _ | refine And.intro ?_ ?_)) (fun i _ h => by omega) ?_
  rintro j ⟨⟩ hj hall
  try dsimp only
  simp only [sZ, initT, optI, splice, reduceIte, reduceCtorEq, Nat.reduceEqDiff, Nat.reduceAdd, Nat.reduceSub, Nat.reduceMul, Nat.reduceLeDiff, Nat.reduceLT, Int.reduceLT, Int.reduceLE, Int.reduceToNat, Int.reduceEq, Int.cast_ofNat_Int, f1]
  refine brC_in (fun hlt => ?_) (fun hge => ?_)
  · have hj' : j < m.length := by have := of_decide_eq_true hlt; omega
    clear hlt
    have hw := wrap_succ hj' (by omega)
    have hg : (m.map encObj)[j]? = some (encObj m[j]) := objE.get hj'
    simp only [sZ, initT, optI, splice, reduceIte, reduceCtorEq, Nat.reduceEqDiff, Nat.reduceAdd, Nat.reduceSub, Nat.reduceMul, Nat.reduceLeDiff, Nat.reduceLT, Int.reduceLT, Int.reduceLE, Int.reduceToNat, Int.reduceEq, Int.cast_ofNat_Int, f1, hg, len_encObj, wh_encObj, st_encObj]
    refine callQS_quiet (hrf hvm m[j] (List.getElem_mem hj') _ _) ?_
    by_cases c : refsE (kindM m []) m[j].kind m[j].refs = 0
    · have d : (!decide (refsE (kindM m []) m[j].kind m[j].refs = 0)) = false := by rw [decide_eq_true c]; rfl
      simp only [sZ, initT, optI, splice, reduceIte, reduceCtorEq, Nat.reduceEqDiff, Nat.reduceAdd, Nat.reduceSub, Nat.reduceMul, Nat.reduceLeDiff, Nat.reduceLT, Int.reduceLT, Int.reduceLE, Int.reduceToNat, Int.reduceEq, Int.cast_ofNat_Int, f1, d, hw]
      refine next_L hj' () (SExt.refl _) rfl (by (try simp only [TabLe_cons, TabLe_nil, tab_cons, tab_nil, upd_apply, Nat.reduceEqDiff, reduceIte, and_true]); repeat' (first | exact trivial | exact A.le_refl _ | exact le_strip_no _ _ _ | exact A.le_no _ _ _ | exact A.le_empty _ _ _ | refine And.intro ?_ ?_)) fun i hi h3 => ?_
      by_cases hij : i = j
      · subst hij; exact c
      · exact hall i hi (by omega)
    · have d : (!decide (refsE (kindM m []) m[j].kind m[j].refs = 0)) = true := by rw [decide_eq_false c]; rfl
      have : closedF m = false := by
        unfold closedF
        have : (m.all fun o => decide (refsE (kindM m []) o.kind o.refs = 0)) = false := by
          rw [List.all_eq_false]
          exact ⟨m[j], List.getElem_mem hj', by simpa using c⟩
        rw [this, Bool.and_false]
      rw [this]
      simp only [sZ, initT, optI, splice, reduceIte, reduceCtorEq, Nat.reduceEqDiff, Nat.reduceAdd, Nat.reduceSub, Nat.reduceMul, Nat.reduceLeDiff, Nat.reduceLT, Int.reduceLT, Int.reduceLE, Int.reduceToNat, Int.reduceEq, Int.cast_ofNat_Int, f1, d]
      refine OutQ.eq (by repeat (first | exact SExt.refl _ | (refine SExt.old ?_ (by first | (simp only [*]; done) | (simp only [upd_none]; assumption) | (simp only [upd_none, *, not_false_eq_true, and_self]; done)) _))) rfl
  · have hje : j = m.length := by have := of_decide_eq_false hge; omega
    subst hje
    have : closedF m = true := by
      unfold closedF
      rw [hvm, Bool.true_and, List.all_eq_true]
      intro o ho
      obtain ⟨i, hi, rfl⟩ := List.getElem_of_mem ho
      exact decide_eq_true (hall i hi hi)
    rw [this]
    simp only [sZ, initT, optI, splice, reduceIte, reduceCtorEq, Nat.reduceEqDiff, Nat.reduceAdd, Nat.reduceSub, Nat.reduceMul, Nat.reduceLeDiff, Nat.reduceLT, Int.reduceLT, Int.reduceLE, Int.reduceToNat, Int.reduceEq, Int.cast_ofNat_Int]
    refine OutQ.eq (by repeat (first | exact SExt.refl _ | (refine SExt.old ?_ (by first | (simp only [*]; done) | (simp only [upd_none]; assumption) | (simp only [upd_none, *, not_false_eq_true, and_self]; done)) _))) rfl
theorem findE_nonneg (m : List Obj) (l : List Edit) : 0 ≤ (findE m l).kind := by
  rcases findE_cases m l with ⟨h, _⟩ | ⟨κ, h1, h4, hk, _⟩
  · rw [h]; exact Int.le_refl _
  · obtain ⟨_, i, _, _, _, _, he⟩ := kindE_some hk
    rw [he]
    dsimp only
    omega
theorem spec_before (a b : List Int) (ha : a.length < 70000) (hb : b.length < 70000) {s : Nat → Option Blk} {k : Nat → Tk} : Spec prg 24 [.sl 1 (a.map encInt) .no, .sl 1 (b.map encInt) .no] s k (.bool (!behindF a b)) s k := by
  refine spec_tr prg_mixed tr_pref32_Before (Nat.le_of_ble_eq_true rfl) rfl ?_
  unfold pc_pref32_Before rs_pref32_Before
  simp only [sZ, initT, optI, splice, reduceIte, reduceCtorEq, Nat.reduceEqDiff, Nat.reduceAdd, Nat.reduceSub, Nat.reduceMul, Nat.reduceLeDiff, Nat.reduceLT, Int.reduceLT, Int.reduceLE, Int.reduceToNat, Int.reduceEq, Int.cast_ofNat_Int]
  refine loop_L (α := Unit) (min a.length b.length) (fun j _ => [(0, .sl 1 (a.map encInt) .no), (1, .sl 1 (b.map encInt) .no), (5, .int .i64 j)]) (fun _ _ => s) (fun _ _ => k) (fun j _ => ∀ i (h1 : i < a.length) (h2 : i < b.length), i < j → a[i] = b[i]) () (SExt.refl _) rfl (by (try simp only [TabLe_cons, TabLe_nil, tab_cons, tab_nil, upd_apply, Nat.reduceEqDiff, reduceIte, and_true]); repeat' (first | exact trivial | exact A.le_refl _ | exact le_strip_no _ _ _ | exact A.le_no _ _ _ | exact A.le_empty _ _ _ | refine And.intro ?_ ?_)) (fun i _ _ h => by omega) ?_
  rintro j ⟨⟩ hj hall
  try dsimp only
  have hdr := behindF_drop a b j (by omega) (by omega) hall
  by_cases c : j < a.length ∧ j < b.length
  · have c1 : decide ((j : Int) < (a.length : Int)) = true := decide_eq_true (by omega)
    have c2 : decide ((j : Int) < (b.length : Int)) = true := decide_eq_true (by omega)
    have ga : (a.map encInt)[j]? = some (encInt a[j]) := intE.get c.1
    have gb : (b.map encInt)[j]? = some (encInt b[j]) := intE.get c.2
    have p1 : (0 : Int) ≤ j := by omega
    have p2 : (j : Int) < a.length := by omega
    have p3 : (j : Int) < b.length := by omega
    have hw : IntKind.i64.wrap ((j : Int) + 1) = ((j + 1 : Nat) : Int) := wrap64 (by omega) (by omega)
    simp only [sZ, initT, optI, splice, reduceIte, reduceCtorEq, Nat.reduceEqDiff, Nat.reduceAdd, Nat.reduceSub, Nat.reduceMul, Nat.reduceLeDiff, Nat.reduceLT, Int.reduceLT, Int.reduceLE, Int.reduceToNat, Int.reduceEq, Int.cast_ofNat_Int, c1, c2, p1, p2, p3, Int.toNat_natCast, ga, gb, get_int]
    refine brC_in (fun h1 => ?_) (fun h1 => ?_)
    · have hne : a[j] ≠ b[j] := by simpa using h1
      rw [hdr, List.drop_eq_getElem_cons c.1, List.drop_eq_getElem_cons c.2]
      simp only [behindF]
      rw [if_neg hne]
      have hl : (!decide (b[j] < a[j])) = decide (a[j] < b[j]) := by
        rw [Bool.eq_iff_iff]
        simp only [Bool.not_eq_true', decide_eq_false_iff_not, decide_eq_true_eq]
        omega
      rw [hl]
      simp only [sZ, initT, optI, splice, reduceIte, reduceCtorEq, Nat.reduceEqDiff, Nat.reduceAdd, Nat.reduceSub, Nat.reduceMul, Nat.reduceLeDiff, Nat.reduceLT, Int.reduceLT, Int.reduceLE, Int.reduceToNat, Int.reduceEq, Int.cast_ofNat_Int, c1, c2, p1, p2, p3, Int.toNat_natCast, ga, gb, get_int]
      refine OutQ.eq (by repeat (first | exact SExt.refl _ | (refine SExt.old ?_ (by first | (simp only [*]; done) | (simp only [upd_none]; assumption) | (simp only [upd_none, *, not_false_eq_true, and_self]; done)) _))) rfl
    · have heq : a[j] = b[j] := by simpa using h1
      simp only [sZ, initT, optI, splice, reduceIte, reduceCtorEq, Nat.reduceEqDiff, Nat.reduceAdd, Nat.reduceSub, Nat.reduceMul, Nat.reduceLeDiff, Nat.reduceLT, Int.reduceLT, Int.reduceLE, Int.reduceToNat, Int.reduceEq, Int.cast_ofNat_Int, hw]
      refine next_L (by omega) () (SExt.refl _) rfl (by (try simp only [TabLe_cons, TabLe_nil, tab_cons, tab_nil, upd_apply, Nat.reduceEqDiff, reduceIte, and_true]); repeat' (first | exact trivial | exact A.le_refl _ | exact le_strip_no _ _ _ | exact A.le_no _ _ _ | exact A.le_empty _ _ _ | refine And.intro ?_ ?_)) fun i g1 g2 g3 => ?_
      by_cases e : i = j
      · subst e; exact heq
      · exact hall i g1 g2 (by omega)
  · have hend : (!behindF a b) = decide ((a.length : Int) ≤ (b.length : Int)) := by
      rw [hdr]
      by_cases c1 : j < a.length
      · have hb0 : b.drop j = [] := List.drop_of_length_le (by omega)
        rw [hb0, List.drop_eq_getElem_cons c1, decide_eq_false (by omega)]
        rfl
      · have ha0 : a.drop j = [] := List.drop_of_length_le (by omega)
        rw [ha0, decide_eq_true (by omega)]
        rfl
    rw [hend]
    by_cases c1 : j < a.length
    · have d1 : decide ((j : Int) < (a.length : Int)) = true := decide_eq_true (by omega)
      have d2 : decide ((j : Int) < (b.length : Int)) = false := decide_eq_false (by omega)
      simp only [sZ, initT, optI, splice, reduceIte, reduceCtorEq, Nat.reduceEqDiff, Nat.reduceAdd, Nat.reduceSub, Nat.reduceMul, Nat.reduceLeDiff, Nat.reduceLT, Int.reduceLT, Int.reduceLE, Int.reduceToNat, Int.reduceEq, Int.cast_ofNat_Int, d1, d2]
      refine OutQ.eq (by repeat (first | exact SExt.refl _ | (refine SExt.old ?_ (by first | (simp only [*]; done) | (simp only [upd_none]; assumption) | (simp only [upd_none, *, not_false_eq_true, and_self]; done)) _))) rfl
    · have d1 : decide ((j : Int) < (a.length : Int)) = false := decide_eq_false (by omega)
      simp only [sZ, initT, optI, splice, reduceIte, reduceCtorEq, Nat.reduceEqDiff, Nat.reduceAdd, Nat.reduceSub, Nat.reduceMul, Nat.reduceLeDiff, Nat.reduceLT, Int.reduceLT, Int.reduceLE, Int.reduceToNat, Int.reduceEq, Int.cast_ofNat_Int, d1]
      refine OutQ.eq (by repeat (first | exact SExt.refl _ | (refine SExt.old ?_ (by first | (simp only [*]; done) | (simp only [upd_none]; assumption) | (simp only [upd_none, *, not_false_eq_true, and_self]; done)) _))) rfl
theorem spec_soundLaw (m : List Obj) (l : List Edit) (e : Evid) (hm : ∀ o ∈ m, ObjSm o) (hl : ∀ e ∈ l, ObjSm e.obj) {s : Nat → Option Blk} {k : Nat → Tk} : Spec prg 8 [.agg (encMap m), .sl 15 (l.map encEdit) .no, .agg (encEvid e)] s k (.bool true) s k := by
  refine spec_tr prg_mixed tr_plaw32_VerifySound (Nat.le_of_ble_eq_true rfl) rfl ?_
  unfold pc_plaw32_VerifySound rs_plaw32_VerifySound
  have hfew := fun s k => @spec7 m l e s k
  obtain ⟨κ, es⟩ := e
  simp only [encMap, encEvid] at hfew
  simp only [sZ, initT, optI, splice, reduceIte, reduceCtorEq, Nat.reduceEqDiff, Nat.reduceAdd, Nat.reduceSub, Nat.reduceMul, Nat.reduceLeDiff, Nat.reduceLT, Int.reduceLT, Int.reduceLE, Int.reduceToNat, Int.reduceEq, Int.cast_ofNat_Int, encMap, encEvid]
  (with_reducible refine newS_in ?_); intro b3 f3; simp only [upd_none] at f3
  simp only [sZ, initT, optI, splice, reduceIte, reduceCtorEq, Nat.reduceEqDiff, Nat.reduceAdd, Nat.reduceSub, Nat.reduceMul, Nat.reduceLeDiff, Nat.reduceLT, Int.reduceLT, Int.reduceLE, Int.reduceToNat, Int.reduceEq, Int.cast_ofNat_Int, f3]
  (with_reducible refine newS_in ?_); intro b5 f5; simp only [upd_none] at f5
  simp only [sZ, initT, optI, splice, reduceIte, reduceCtorEq, Nat.reduceEqDiff, Nat.reduceAdd, Nat.reduceSub, Nat.reduceMul, Nat.reduceLeDiff, Nat.reduceLT, Int.reduceLT, Int.reduceLE, Int.reduceToNat, Int.reduceEq, Int.cast_ofNat_Int, f3, f5]
  refine callS_quiet spec6 ?_
  simp only [sZ, initT, optI, splice, reduceIte, reduceCtorEq, Nat.reduceEqDiff, Nat.reduceAdd, Nat.reduceSub, Nat.reduceMul, Nat.reduceLeDiff, Nat.reduceLT, Int.reduceLT, Int.reduceLE, Int.reduceToNat, Int.reduceEq, Int.cast_ofNat_Int, f3, f5]
  refine callS_quiet (hfew _ _) ?_
  cases hfw : fewA m l ⟨κ, es⟩
  · simp only [sZ, initT, optI, splice, reduceIte, reduceCtorEq, Nat.reduceEqDiff, Nat.reduceAdd, Nat.reduceSub, Nat.reduceMul, Nat.reduceLeDiff, Nat.reduceLT, Int.reduceLT, Int.reduceLE, Int.reduceToNat, Int.reduceEq, Int.cast_ofNat_Int, f3, f5, Bool.not_false]
    refine OutQ.eq (by repeat (first | exact SExt.refl _ | (refine SExt.old ?_ (by first | (simp only [*]; done) | (simp only [upd_none]; assumption) | (simp only [upd_none, *, not_false_eq_true, and_self]; done)) _))) rfl
  obtain ⟨n1, n2, n3, hmf, hlf⟩ := fewA_fit hfw hm hl
  dsimp only at n3
  have hF := fun s k => @spec_Find m l hmf (by omega) hlf s k
  have hC := fun s k => @spec_closed21 m hmf s k
  have hV := fun s k => @spec_change l (by omega) hlf s k
  have hA := fun s k => @spec8 m l ⟨κ, es⟩ s k hmf.len (fun o ho => (hmf.obj o ho).tags) (by omega) (fun e he => (hlf e he).obj.tags)
  have hlen := findF_len m l
  have hB := fun s k => @spec_before (findF m l).edits es (by omega) (by omega) s k
  simp only [encMap, encEvid] at hF hC hA
  clear hfew hfw hm hl
  simp only [sZ, initT, optI, splice, reduceIte, reduceCtorEq, Nat.reduceEqDiff, Nat.reduceAdd, Nat.reduceSub, Nat.reduceMul, Nat.reduceLeDiff, Nat.reduceLT, Int.reduceLT, Int.reduceLE, Int.reduceToNat, Int.reduceEq, Int.cast_ofNat_Int, f3, f5, Bool.not_true]
  refine callS_quiet (hC _ _) ?_
  cases hcc : closedF m
  · simp only [sZ, initT, optI, splice, reduceIte, reduceCtorEq, Nat.reduceEqDiff, Nat.reduceAdd, Nat.reduceSub, Nat.reduceMul, Nat.reduceLeDiff, Nat.reduceLT, Int.reduceLT, Int.reduceLE, Int.reduceToNat, Int.reduceEq, Int.cast_ofNat_Int, f3, f5, Bool.not_false]
    refine OutQ.eq (by repeat (first | exact SExt.refl _ | (refine SExt.old ?_ (by first | (simp only [*]; done) | (simp only [upd_none]; assumption) | (simp only [upd_none, *, not_false_eq_true, and_self]; done)) _))) rfl
  simp only [sZ, initT, optI, splice, reduceIte, reduceCtorEq, Nat.reduceEqDiff, Nat.reduceAdd, Nat.reduceSub, Nat.reduceMul, Nat.reduceLeDiff, Nat.reduceLT, Int.reduceLT, Int.reduceLE, Int.reduceToNat, Int.reduceEq, Int.cast_ofNat_Int, f3, f5, Bool.not_true]
  refine callS_quiet (hV _ _) ?_
  cases hcv : changeV l
  · simp only [sZ, initT, optI, splice, reduceIte, reduceCtorEq, Nat.reduceEqDiff, Nat.reduceAdd, Nat.reduceSub, Nat.reduceMul, Nat.reduceLeDiff, Nat.reduceLT, Int.reduceLT, Int.reduceLE, Int.reduceToNat, Int.reduceEq, Int.cast_ofNat_Int, f3, f5, Bool.not_false]
    refine OutQ.eq (by repeat (first | exact SExt.refl _ | (refine SExt.old ?_ (by first | (simp only [*]; done) | (simp only [upd_none]; assumption) | (simp only [upd_none, *, not_false_eq_true, and_self]; done)) _))) rfl
  simp only [sZ, initT, optI, splice, reduceIte, reduceCtorEq, Nat.reduceEqDiff, Nat.reduceAdd, Nat.reduceSub, Nat.reduceMul, Nat.reduceLeDiff, Nat.reduceLT, Int.reduceLT, Int.reduceLE, Int.reduceToNat, Int.reduceEq, Int.cast_ofNat_Int, f3, f5, Bool.not_true]
  refine callS_quiet (hA _ _) ?_
  cases hh : acceptF m l ⟨κ, es⟩
  · simp only [sZ, initT, optI, splice, reduceIte, reduceCtorEq, Nat.reduceEqDiff, Nat.reduceAdd, Nat.reduceSub, Nat.reduceMul, Nat.reduceLeDiff, Nat.reduceLT, Int.reduceLT, Int.reduceLE, Int.reduceToNat, Int.reduceEq, Int.cast_ofNat_Int, f3, f5, Bool.not_false]
    refine OutQ.eq (by repeat (first | exact SExt.refl _ | (refine SExt.old ?_ (by first | (simp only [*]; done) | (simp only [upd_none]; assumption) | (simp only [upd_none, *, not_false_eq_true, and_self]; done)) _))) rfl
  simp only [sZ, initT, optI, splice, reduceIte, reduceCtorEq, Nat.reduceEqDiff, Nat.reduceAdd, Nat.reduceSub, Nat.reduceMul, Nat.reduceLeDiff, Nat.reduceLT, Int.reduceLT, Int.reduceLE, Int.reduceToNat, Int.reduceEq, Int.cast_ofNat_Int, f3, f5, Bool.not_true]
  refine callS_quiet (hF _ _) ?_
  have hfe : findF m l = findE m l := by unfold findF; rw [if_pos ⟨hcc, hcv⟩]
  obtain ⟨g1, g2, g3⟩ := find_first (accept_holds hcc hcv hh)
  have g0 := findE_nonneg m l
  rw [← hfe] at g0 g1 g2 g3
  dsimp only at g2 g3
  clear hfe hh hF hC hV hA
  generalize findF m l = x at *
  obtain ⟨kx, ex⟩ := x
  dsimp only at g0 g1 g2 g3 hB
  have d0 : decide ((1 : Int) ≤ kx) = true := decide_eq_true (by omega)
  by_cases c : kx < κ
  · have d2 := decide_eq_true c
    simp only [sZ, initT, optI, splice, reduceIte, reduceCtorEq, Nat.reduceEqDiff, Nat.reduceAdd, Nat.reduceSub, Nat.reduceMul, Nat.reduceLeDiff, Nat.reduceLT, Int.reduceLT, Int.reduceLE, Int.reduceToNat, Int.reduceEq, Int.cast_ofNat_Int, f3, f5, encEvid]
    (with_reducible refine newS_in ?_); intro b8 f8; simp only [upd_none] at f8
    simp only [sZ, initT, optI, splice, reduceIte, reduceCtorEq, Nat.reduceEqDiff, Nat.reduceAdd, Nat.reduceSub, Nat.reduceMul, Nat.reduceLeDiff, Nat.reduceLT, Int.reduceLT, Int.reduceLE, Int.reduceToNat, Int.reduceEq, Int.cast_ofNat_Int, f3, f5, f8, d0, d2]
    refine OutQ.eq (by repeat (first | exact SExt.refl _ | (refine SExt.old ?_ (by first | (simp only [*]; done) | (simp only [upd_none]; assumption) | (simp only [upd_none, *, not_false_eq_true, and_self]; done)) _))) rfl
  · have d2 := decide_eq_false c
    have ce : kx = κ := by omega
    have d3 := decide_eq_true ce
    rw [g3 ce] at hB
    simp only [sZ, initT, optI, splice, reduceIte, reduceCtorEq, Nat.reduceEqDiff, Nat.reduceAdd, Nat.reduceSub, Nat.reduceMul, Nat.reduceLeDiff, Nat.reduceLT, Int.reduceLT, Int.reduceLE, Int.reduceToNat, Int.reduceEq, Int.cast_ofNat_Int, f3, f5, encEvid]
    (with_reducible refine newS_in ?_); intro b8 f8; simp only [upd_none] at f8
    simp only [sZ, initT, optI, splice, reduceIte, reduceCtorEq, Nat.reduceEqDiff, Nat.reduceAdd, Nat.reduceSub, Nat.reduceMul, Nat.reduceLeDiff, Nat.reduceLT, Int.reduceLT, Int.reduceLE, Int.reduceToNat, Int.reduceEq, Int.cast_ofNat_Int, f3, f5, f8, d0, d2, d3]
    refine callS_quiet (hB _ _) ?_
    simp only [sZ, initT, optI, splice, reduceIte, reduceCtorEq, Nat.reduceEqDiff, Nat.reduceAdd, Nat.reduceSub, Nat.reduceMul, Nat.reduceLeDiff, Nat.reduceLT, Int.reduceLT, Int.reduceLE, Int.reduceToNat, Int.reduceEq, Int.cast_ofNat_Int, f3, f5, f8, Bool.not_false]
    refine OutQ.eq (by repeat (first | exact SExt.refl _ | (refine SExt.old ?_ (by first | (simp only [*]; done) | (simp only [upd_none]; assumption) | (simp only [upd_none, *, not_false_eq_true, and_self]; done)) _))) rfl
end Go.Pv
