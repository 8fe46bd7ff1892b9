/- Objects and maps that are valid. -/
import Derived.Test.YtlcacobkiglmbaaEvD
set_option linter.unusedVariables false
set_option linter.unusedSimpArgs false
set_option maxRecDepth 4000
set_option maxHeartbeats 2000000
namespace Go.Pv
open Go

def refsV (kind : Int) (l : List ByteArray) : Bool := !(List.range l.length).any fun j => wrongF kind l j (l.getD j ⟨#[]⟩)
def zeroP (x y : Int) : Bool := decide (x = 0) && decide (y = 0)
def tailV (o : Obj) : Bool :=
  cond (decide (o.kind = 1)) (decide (o.refs.length = 0) && gridF o.x o.y) (cond (decide (o.kind = 5)) (decide (o.refs.length = 3) && zeroP o.x o.y) (zeroP o.x o.y))
def objV (o : Obj) : Bool := kindOK o.kind && (nameF o.id && (tagsV o.tags && (!decide ((o.refs.length : Int) < leastF o.kind) && (decide (o.refs.length ≤ 2000) && (refsV o.kind o.refs && tailV o)))))
theorem fit_pt (a b : Int) : (fitBs [.int .i64, .int .i64] [.int .i64 a, .int .i64 b] = true) = True := by simp [fitBs, fitB]
theorem eq_pt (a b c d : Int) : eqCells [.int .i64 a, .int .i64 b] [.int .i64 c, .int .i64 d] = some (decide (a = c) && decide (b = d)) := by
  simp only [eqCells, Option.map_some, Bool.and_true, if_true]
theorem spec_obj (o : Obj) (hf : ObjFit o) {s : Nat → Option Blk} {k : Nat → Tk} : Spec prg 43 [.agg (encObj o)] s k (.bool (objV o)) s k := by
  refine spec_tr prg_mixed tr_object_Valid (Nat.le_of_ble_eq_true rfl) rfl ?_
  unfold pc_object_Valid rs_object_Valid
  obtain ⟨id, kind, x, y, refs, tags⟩ := o
  obtain ⟨hf1, hf2, hf3, hf4, hf5⟩ := hf
  dsimp only at hf1 hf2 hf3 hf4 hf5
  have hd : decide ((2000 : Int) < (refs.length : Int)) = !decide (refs.length ≤ 2000) := by rw [← decide_not]; simp; omega
  have ho : objV ⟨id, kind, x, y, refs, tags⟩ = (kindOK kind && (nameF id && (tagsV tags && (!decide ((refs.length : Int) < leastF kind) && (decide (refs.length ≤ 2000) && (refsV kind refs && tailV ⟨id, kind, x, y, refs, tags⟩)))))) := rfl
  simp only [sZ, initT, optI, splice, reduceIte, reduceCtorEq, Nat.reduceEqDiff, Nat.reduceAdd, Nat.reduceSub, Nat.reduceMul, Nat.reduceLeDiff, Nat.reduceLT, Int.reduceLT, Int.reduceLE, Int.reduceToNat, Int.reduceEq, Int.cast_ofNat_Int, encObj]
  (with_reducible refine newS_in ?_); intro b1 f1; simp only [upd_none] at f1
  simp only [sZ, initT, optI, splice, reduceIte, reduceCtorEq, Nat.reduceEqDiff, Nat.reduceAdd, Nat.reduceSub, Nat.reduceMul, Nat.reduceLeDiff, Nat.reduceLT, Int.reduceLT, Int.reduceLE, Int.reduceToNat, Int.reduceEq, Int.cast_ofNat_Int, f1]
  refine callQS_quiet (spec_word kind) ?_
  cases hk : kindOK kind
  · rw [hk, Bool.false_and] at ho
    rw [ho]
    have hw : decide (wordF kind = ⟨#[]⟩) = true := by rw [word_nil, hk]; rfl
    repeat' (first | (first | (with_reducible refine newS_in ?_; intro _ hid_; simp only [upd_none] at hid_) | (with_reducible refine newR_in ?_; intro _ hid_ hih_; simp only [upd_none, upd_none', rr_eqs2, and_true] at hid_ hih_) | (with_reducible refine mkmS_in ?_; intro _ hid_; simp only [upd_none] at hid_)) | (with_reducible refine brC_in (fun h_ => ?_) (fun h_ => ?_)) | (with_reducible refine brG_in (fun h_ => ?_) (fun h_ => ?_)) | (with_reducible refine brN_in (fun h_ => ?_) (fun h_ => ?_)) | simp only [sZ, initT, optI, splice, reduceIte, reduceCtorEq, Nat.reduceEqDiff, Nat.reduceAdd, Nat.reduceSub, Nat.reduceMul, Nat.reduceLeDiff, Nat.reduceLT, Int.reduceLT, Int.reduceLE, Int.reduceToNat, Int.reduceEq, Int.cast_ofNat_Int, *, hw])
    all_goals refine OutQ.eq (by repeat (first | exact SExt.refl _ | (refine SExt.old ?_ (by first | (simp only [*]; done) | (simp only [upd_none]; assumption) | (simp only [upd_none, *, not_false_eq_true, and_self]; done)) _))) rfl
  · rw [hk, Bool.true_and] at ho
    have hw : decide (wordF kind = ⟨#[]⟩) = false := by rw [word_nil, hk]; rfl
    simp only [sZ, initT, optI, splice, reduceIte, reduceCtorEq, Nat.reduceEqDiff, Nat.reduceAdd, Nat.reduceSub, Nat.reduceMul, Nat.reduceLeDiff, Nat.reduceLT, Int.reduceLT, Int.reduceLE, Int.reduceToNat, Int.reduceEq, Int.cast_ofNat_Int, f1, hw]
    repeat' (first | (refine callQS_quiet (spec_Name _ hf1) ?_) | (refine callQS_quiet (spec_tags _ hf4 hf5) ?_) | (refine callQS_quiet (spec_least kind hk) ?_) | (first | (with_reducible refine newS_in ?_; intro _ hid_; simp only [upd_none] at hid_) | (with_reducible refine newR_in ?_; intro _ hid_ hih_; simp only [upd_none, upd_none', rr_eqs2, and_true] at hid_ hih_) | (with_reducible refine mkmS_in ?_; intro _ hid_; simp only [upd_none] at hid_)) | (with_reducible refine brC_in (fun h_ => ?_) (fun h_ => ?_)) | (with_reducible refine brG_in (fun h_ => ?_) (fun h_ => ?_)) | (with_reducible refine brN_in (fun h_ => ?_) (fun h_ => ?_)) | simp only [sZ, initT, optI, splice, reduceIte, reduceCtorEq, Nat.reduceEqDiff, Nat.reduceAdd, Nat.reduceSub, Nat.reduceMul, Nat.reduceLeDiff, Nat.reduceLT, Int.reduceLT, Int.reduceLE, Int.reduceToNat, Int.reduceEq, Int.cast_ofNat_Int, *, hd, -hk, -ho, -hf1, -hf2, -hf3, -hf4, -hf5, -f1, f1, encM_nil encB])
    all_goals first
      | (refine OutQ.eq (by repeat (first | exact SExt.refl _ | (refine SExt.old ?_ (by first | (simp only [*]; done) | (simp only [upd_none]; assumption) | (simp only [upd_none, *, not_false_eq_true, and_self]; done)) _))) ?_; rw [ho]; clear ho hf1 hf2 hf3 hf4 hf5 hw hd; simp_all only [Bool.not_eq_true', Bool.not_eq_false', Bool.not_not, Bool.not_true, Bool.not_false, Bool.and_true, Bool.true_and, Bool.and_false, Bool.false_and, Bool.or_true, Bool.true_or, Bool.or_false, Bool.false_or]; done)
      | skip
    rename_i h1 h2 h3 i1 g1 i2 g2 i3
    have hx := h_
    clear h_
    have g3 := hid_
    clear hid_
    have e1 : nameF id = true := by simpa using h1
    have e2 : tagsV tags = true := by simpa using h2
    have e4 : decide (refs.length ≤ 2000) = true := by simpa using hx
    rw [e1, e2, h3, e4, Bool.true_and, Bool.true_and, Bool.not_false, Bool.true_and, Bool.true_and] at ho
    clear h1 h2 h3 hx e1 e2 e4 hd hw
    have hS : ∀ j (hj : j < refs.length), SpecR prg 82 [.str refs[j], .ptr b1 0, .ptr i3 0, .ptr i2 0] (upd (upd (upd (upd s b1 (some (.cells (encObj ⟨id, kind, x, y, refs, tags⟩)))) i1 (some (.map (encM encB (seenM (refs.take j) []))))) i2 (some (.cells [.map i1]))) i3 (some (.cells [.str (lastK idK ⟨#[]⟩ (refs.take j))]))) k
        fun r s' k' => r = .bool (wrongF kind refs j (refs.getD j ⟨#[]⟩)) ∧ s' = (upd (upd (upd (upd s b1 (some (.cells (encObj ⟨id, kind, x, y, refs, tags⟩)))) i1 (some (.map (encM encB (seenM (refs.take (j + 1)) []))))) i2 (some (.cells [.map i1]))) i3 (some (.cells [.str (lastK idK ⟨#[]⟩ (refs.take (j + 1)))]))) ∧ k' = k := by
      intro j hj
      have hgd : refs.getD j ⟨#[]⟩ = refs[j] := by rw [List.getD_eq_getElem?_getD, List.getElem?_eq_getElem hj]; rfl
      have h := fun s ho hl hm hi => @spec_wrong kind refs j refs[j] (hf3 _ (List.getElem_mem hj)) s k b1 i3 i2 i1 (.str id) (.int .i64 x) (.int .i64 y) (.sl 1 (refs.map encStr) .no) (.sl 2 (tags.map encTag) .no) ho hl hm hi (fun e => g2.1.1 e) (fun e => g3.2.1.1 e)
      have h' := h (upd (upd (upd (upd s b1 (some (.cells (encObj ⟨id, kind, x, y, refs, tags⟩)))) i1 (some (.map (encM encB (seenM (refs.take j) []))))) i2 (some (.cells [.map i1]))) i3 (some (.cells [.str (lastK idK ⟨#[]⟩ (refs.take j))])))
        (by simp only [upd_apply, g1, g2, g3, reduceIte, encObj]) (by simp only [upd_apply, g1, g2, g3, reduceIte]) (by simp only [upd_apply, g1, g2, g3, reduceIte]) (by simp only [upd_apply, g1, g2, g3, reduceIte])
      rw [hgd]
      intro w E vs a b c
      refine (h' w E vs a b c).mono ?_
      rintro v w' ⟨r, s', k', ⟨q1, q2, q3⟩, hr⟩
      refine ⟨r, s', k', ⟨q1, ?_, q3⟩, hr⟩
      rw [q2, seenM_take refs _ hj, lastK_take idK refs _ hj]
      funext z
      simp only [upd_apply, idK]
      by_cases z3 : z = i3
      · simp [z3]
      · by_cases z1 : z = i1
        · subst z1; simp [z3, g2, g3]
        · simp [z1, z3]
    refine callS_R (spec_contS refs hf2 _ _ (fun j => upd (upd (upd (upd s b1 (some (.cells (encObj ⟨id, kind, x, y, refs, tags⟩)))) i1 (some (.map (encM encB (seenM (refs.take j) []))))) i2 (some (.cells [.map i1]))) i3 (some (.cells [.str (lastK idK ⟨#[]⟩ (refs.take j))]))) k (fun j => wrongF kind refs j (refs.getD j ⟨#[]⟩)) hS) ?_
    rintro r s' k' ⟨n, rfl, rfl, rfl⟩
    clear hS
    have hany : ((List.range refs.length).any fun j => wrongF kind refs j (refs.getD j ⟨#[]⟩)) = !refsV kind refs := by unfold refsV; rw [Bool.not_not]
    dsimp only
    rw [hany]
    clear hany
    generalize seenM (refs.take n) [] = M
    generalize lastK idK ⟨#[]⟩ (refs.take n) = la
    generalize refsV kind refs = rf at ho
    have n0 : decide ((refs.length : Int) = 0) = decide (refs.length = 0) := by simp
    have n3 : decide ((refs.length : Int) = 3) = decide (refs.length = 3) := by simp; omega
    have ht : tailV ⟨id, kind, x, y, refs, tags⟩ = cond (decide (kind = 1)) (decide (refs.length = 0) && gridF x y) (cond (decide (kind = 5)) (decide (refs.length = 3) && zeroP x y) (zeroP x y)) := rfl
    have hzz : zeroP x y = (decide (x = 0) && decide (y = 0)) := rfl
    rw [ht, hzz] at ho
    clear ht hzz hk hf1 hf2 hf3 hf4 hf5
    repeat' (first | (refine callS_quiet (spec_grid x y) ?_) | (first | (with_reducible refine newS_in ?_; intro _ hid_; simp only [upd_none] at hid_) | (with_reducible refine newR_in ?_; intro _ hid_ hih_; simp only [upd_none, upd_none', rr_eqs2, and_true] at hid_ hih_) | (with_reducible refine mkmS_in ?_; intro _ hid_; simp only [upd_none] at hid_)) | (with_reducible refine brC_in (fun h_ => ?_) (fun h_ => ?_)) | (with_reducible refine brG_in (fun h_ => ?_) (fun h_ => ?_)) | (with_reducible refine brN_in (fun h_ => ?_) (fun h_ => ?_)) | simp only [sZ, initT, optI, splice, reduceIte, reduceCtorEq, Nat.reduceEqDiff, Nat.reduceAdd, Nat.reduceSub, Nat.reduceMul, Nat.reduceLeDiff, Nat.reduceLT, Int.reduceLT, Int.reduceLE, Int.reduceToNat, Int.reduceEq, Int.cast_ofNat_Int, *, encObj, n0, n3, -ho, fit_pt, eq_pt])
    all_goals
      refine OutQ.eq (by repeat (first | exact SExt.refl _ | (refine SExt.old ?_ (by first | (simp only [*]; done) | (simp only [upd_none]; assumption) | (simp only [upd_none, *, not_false_eq_true, and_self]; done)) _))) ?_
      rw [ho]
      clear ho g1 g2 g3 f1 n0 n3
      simp_all only [Bool.not_eq_true', Bool.not_eq_false', Bool.not_not, Bool.not_true, Bool.not_false, Bool.and_true, Bool.true_and, Bool.and_false, Bool.false_and, cond_true, cond_false]
structure MapFit (m : List Obj) : Prop where
  len : m.length < 4611686018427387904
  obj : ∀ o ∈ m, ObjFit o
def inMap (a : ByteArray) (o : Obj) : Bool := objV o && !leS o.id a
def mapV (m : List Obj) : Bool := chain inMap Obj.id ⟨#[]⟩ m && decide (m.length ≤ 1000000)
theorem mapV_no {m : List Obj} {j : Nat} (h : chain inMap Obj.id ⟨#[]⟩ (m.take j) = false) : mapV m = false := by
  unfold mapV
  rw [chain_no _ _ _ _ _ h, Bool.false_and]
theorem encObj_0 (o : Obj) : (encObj o)[0]? = some (.str o.id) := rfl
theorem spec_map (m : List Obj) (hm : MapFit m) {s : Nat → Option Blk} {k : Nat → Tk} : Spec prg 13 [.agg (encMap m)] s k (.bool (mapV m)) s k := by
  refine spec_tr prg_mixed tr_atlas_Valid (Nat.le_of_ble_eq_true rfl) rfl ?_
  unfold pc_atlas_Valid rs_atlas_Valid
  obtain ⟨hl, hof⟩ := hm
  simp only [sZ, initT, optI, splice, reduceIte, reduceCtorEq, Nat.reduceEqDiff, Nat.reduceAdd, Nat.reduceSub, Nat.reduceMul, Nat.reduceLeDiff, Nat.reduceLT, Int.reduceLT, Int.reduceLE, Int.reduceToNat, Int.reduceEq, Int.cast_ofNat_Int, encMap]
  (with_reducible refine newS_in ?_); intro b1 f1; simp only [upd_none] at f1
  simp only [sZ, initT, optI, splice, reduceIte, reduceCtorEq, Nat.reduceEqDiff, Nat.reduceAdd, Nat.reduceSub, Nat.reduceMul, Nat.reduceLeDiff, Nat.reduceLT, Int.reduceLT, Int.reduceLE, Int.reduceToNat, Int.reduceEq, Int.cast_ofNat_Int, f1]
  refine loop_L (α := Unit) m.length (fun j _ => [(1, .ptr b1 0), (2, .bool false), (3, .str (lastK Obj.id ⟨#[]⟩ (m.take j))), (7, .sl 6 (m.map encObj) .no), (8, .int .i64 m.length), (9, .int .i64 j)]) (fun j _ => upd s b1 (some (.cells [.sl 6 (m.map encObj) .no]))) (fun _ _ => k) (fun j _ => chain inMap Obj.id ⟨#[]⟩ (m.take j) = true) () (SExt.refl _) rfl (by (try simp only [TabLe_cons, TabLe_nil, tab_cons, tab_nil, upd_apply, Nat.reduceEqDiff, reduceIte, and_true]); repeat' (first | exact trivial | exact A.le_refl _ | exact le_strip_no _ _ _ | exact A.le_no _ _ _ | exact A.le_empty _ _ _ | refine And.intro ?_ ?_)) rfl ?_
  rintro j ⟨⟩ hj hall
  try dsimp only
  simp only [sZ, initT, optI, splice, reduceIte, reduceCtorEq, Nat.reduceEqDiff, Nat.reduceAdd, Nat.reduceSub, Nat.reduceMul, Nat.reduceLeDiff, Nat.reduceLT, Int.reduceLT, Int.reduceLE, Int.reduceToNat, Int.reduceEq, Int.cast_ofNat_Int, f1]
  refine brC_in (fun hlt => ?_) (fun hge => ?_)
  · have hj' : j < m.length := by have := of_decide_eq_true hlt; omega
    clear hlt
    have hw := wrap_succ hj' (by omega)
    have hg : (m.map encObj)[j]? = some (encObj m[j]) := objE.get hj'
    have hn := chain_take inMap Obj.id m ⟨#[]⟩ hj'
    have hla := lastK_take Obj.id m ⟨#[]⟩ hj'
    have hf := hof _ (List.getElem_mem hj')
    have ho : inMap (lastK Obj.id ⟨#[]⟩ (m.take j)) m[j] = (objV m[j] && !leS m[j].id (lastK Obj.id ⟨#[]⟩ (m.take j))) := rfl
    rw [hall, Bool.true_and, ho] at hn
    simp only [sZ, initT, optI, splice, reduceIte, reduceCtorEq, Nat.reduceEqDiff, Nat.reduceAdd, Nat.reduceSub, Nat.reduceMul, Nat.reduceLeDiff, Nat.reduceLT, Int.reduceLT, Int.reduceLE, Int.reduceToNat, Int.reduceEq, Int.cast_ofNat_Int, f1, hg, len_encObj, wh_encObj, st_encObj]
    (with_reducible refine newS_in ?_); intro b5 f5; simp only [upd_none] at f5
    simp only [sZ, initT, optI, splice, reduceIte, reduceCtorEq, Nat.reduceEqDiff, Nat.reduceAdd, Nat.reduceSub, Nat.reduceMul, Nat.reduceLeDiff, Nat.reduceLT, Int.reduceLT, Int.reduceLE, Int.reduceToNat, Int.reduceEq, Int.cast_ofNat_Int, f1, f5, hg, len_encObj, wh_encObj, st_encObj, encObj_0]
    repeat' (first | (refine callS_quiet (spec_obj _ hf) ?_) | (first | (with_reducible refine newS_in ?_; intro _ hid_; simp only [upd_none] at hid_) | (with_reducible refine newR_in ?_; intro _ hid_ hih_; simp only [upd_none, upd_none', rr_eqs2, and_true] at hid_ hih_) | (with_reducible refine mkmS_in ?_; intro _ hid_; simp only [upd_none] at hid_)) | (with_reducible refine brC_in (fun h_ => ?_) (fun h_ => ?_)) | (with_reducible refine brG_in (fun h_ => ?_) (fun h_ => ?_)) | (with_reducible refine brN_in (fun h_ => ?_) (fun h_ => ?_)) | simp only [sZ, initT, optI, splice, reduceIte, reduceCtorEq, Nat.reduceEqDiff, Nat.reduceAdd, Nat.reduceSub, Nat.reduceMul, Nat.reduceLeDiff, Nat.reduceLT, Int.reduceLT, Int.reduceLE, Int.reduceToNat, Int.reduceEq, Int.cast_ofNat_Int, *, len_encObj, wh_encObj, st_encObj, encObj_0, hw, pvB3, -hn, -hla, -ho, -hf, -hg, -hl, -hall])
    all_goals clear ho hg hf hw
    all_goals first
      | (refine next_L hj' () (by repeat (first | exact SExt.refl _ | (refine SExt.old ?_ (by first | (simp only [*]; done) | (simp only [upd_none]; assumption) | (simp only [upd_none, *, not_false_eq_true, and_self]; done)) _))) rfl ?_ ?_
         · rw [hla]; exact (by (try simp only [TabLe_cons, TabLe_nil, tab_cons, tab_nil, upd_apply, Nat.reduceEqDiff, reduceIte, and_true]); repeat' (first | exact trivial | exact A.le_refl _ | exact le_strip_no _ _ _ | exact A.le_no _ _ _ | exact A.le_empty _ _ _ | refine And.intro ?_ ?_))
         · rw [hn]; clear hn hla hall; simp_all only [Bool.not_eq_true', Bool.not_eq_false', Bool.not_not, Bool.not_true, Bool.not_false, Bool.and_true, Bool.true_and, Bool.and_false, Bool.false_and, Bool.or_true, Bool.true_or, Bool.or_false, Bool.false_or]; done)
      | (refine OutQ.eq (by repeat (first | exact SExt.refl _ | (refine SExt.old ?_ (by first | (simp only [*]; done) | (simp only [upd_none]; assumption) | (simp only [upd_none, *, not_false_eq_true, and_self]; done)) _))) ?_
         rw [mapV_no (j := j + 1) (by rw [hn]; clear hn hla hall; simp_all only [Bool.not_eq_true', Bool.not_eq_false', Bool.not_not, Bool.not_true, Bool.not_false, Bool.and_true, Bool.true_and, Bool.and_false, Bool.false_and, Bool.or_true, Bool.true_or, Bool.or_false, Bool.false_or])])
  · have hje : j = m.length := by have := of_decide_eq_false hge; omega
    subst hje
    clear hge
    have hd : decide ((m.length : Int) ≤ 1000000) = decide (m.length ≤ 1000000) := by simp; omega
    rw [List.take_length] at hall
    have hn : mapV m = decide (m.length ≤ 1000000) := by unfold mapV; rw [hall, Bool.true_and]
    repeat' (first | (first | (with_reducible refine newS_in ?_; intro _ hid_; simp only [upd_none] at hid_) | (with_reducible refine newR_in ?_; intro _ hid_ hih_; simp only [upd_none, upd_none', rr_eqs2, and_true] at hid_ hih_) | (with_reducible refine mkmS_in ?_; intro _ hid_; simp only [upd_none] at hid_)) | (with_reducible refine brC_in (fun h_ => ?_) (fun h_ => ?_)) | (with_reducible refine brG_in (fun h_ => ?_) (fun h_ => ?_)) | (with_reducible refine brN_in (fun h_ => ?_) (fun h_ => ?_)) | simp only [sZ, initT, optI, reduceIte, reduceCtorEq, Nat.reduceEqDiff, Nat.reduceAdd, Nat.reduceSub, Nat.reduceMul, Nat.reduceLeDiff, Nat.reduceLT, Int.reduceLT, Int.reduceLE, Int.reduceToNat, Int.reduceEq, Int.cast_ofNat_Int, *, hd, -hn, -hall])
    refine OutQ.eq (by repeat (first | exact SExt.refl _ | (refine SExt.old ?_ (by first | (simp only [*]; done) | (simp only [upd_none]; assumption) | (simp only [upd_none, *, not_false_eq_true, and_self]; done)) _))) ?_
    rw [hn]
end Go.Pv
