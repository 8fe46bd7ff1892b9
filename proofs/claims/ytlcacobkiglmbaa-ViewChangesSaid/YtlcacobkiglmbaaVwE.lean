/- Views: the law's head. -/
import Derived.Test.YtlcacobkiglmbaaVwD
set_option linter.unusedVariables false
set_option linter.unusedSimpArgs false
set_option maxRecDepth 4000
set_option maxHeartbeats 4000000
namespace Go.Pv
open Go

theorem spec_Before0 (l : List ByteArray) (hl : l.length < 4611686018427387904) {s : Nat → Option Blk} {k : Nat → Tk} : Spec prg 77 [.sl 1 (l.map encStr) .no, .sl 1 (l.map encStr) .no] s k (.bool false) s k := by
  refine spec_tr prg_mixed tr_pref13_Before (Nat.le_of_ble_eq_true rfl) rfl ?_
  unfold pc_pref13_Before rs_pref13_Before
  simp only [sZ, initT, optI, splice, reduceIte, reduceCtorEq, Nat.reduceEqDiff, Nat.reduceAdd, Nat.reduceSub, Nat.reduceMul, Nat.reduceLeDiff, Nat.reduceLT, Int.reduceLT, Int.reduceLE, Int.reduceToNat, Int.reduceEq, Int.cast_ofNat_Int]
  refine loop_L (α := Unit) l.length (fun j _ => [(0, .sl 1 (l.map encStr) .no), (1, .sl 1 (l.map encStr) .no), (5, .int .i64 j)]) (fun _ _ => s) (fun _ _ => k) (fun j _ => True) () (SExt.refl _) rfl (by (try simp only [TabLe_cons, TabLe_nil, tab_cons, tab_nil, upd_apply, Nat.reduceEqDiff, reduceIte, and_true]); repeat' (first | exact trivial | exact A.le_refl _ | exact le_strip_no _ _ _ | exact A.le_no _ _ _ | exact A.le_empty _ _ _ | refine And.intro ?_ ?_)) trivial ?_
  rintro j ⟨⟩ hj -
  try dsimp only
  by_cases hlt : j < l.length
  · have hw := wrap_succ hlt (by omega)
    have hg : (l.map encStr)[j]? = some (encStr l[j]) := strE.get hlt
    have hd : decide ((j : Int) < (l.length : Int)) = true := decide_eq_true (by omega)
    simp only [sZ, initT, optI, splice, reduceIte, reduceCtorEq, Nat.reduceEqDiff, Nat.reduceAdd, Nat.reduceSub, Nat.reduceMul, Nat.reduceLeDiff, Nat.reduceLT, Int.reduceLT, Int.reduceLE, Int.reduceToNat, Int.reduceEq, Int.cast_ofNat_Int, hd, hg, get_str, Bool.not_true]
    simp only [sZ, initT, optI, splice, reduceIte, reduceCtorEq, Nat.reduceEqDiff, Nat.reduceAdd, Nat.reduceSub, Nat.reduceMul, Nat.reduceLeDiff, Nat.reduceLT, Int.reduceLT, Int.reduceLE, Int.reduceToNat, Int.reduceEq, Int.cast_ofNat_Int, hw]
    exact next_L hlt () (SExt.refl _) rfl (by (try simp only [TabLe_cons, TabLe_nil, tab_cons, tab_nil, upd_apply, Nat.reduceEqDiff, reduceIte, and_true]); repeat' (first | exact trivial | exact A.le_refl _ | exact le_strip_no _ _ _ | exact A.le_no _ _ _ | exact A.le_empty _ _ _ | refine And.intro ?_ ?_)) trivial
  · have hd : decide ((j : Int) < (l.length : Int)) = false := decide_eq_false (by omega)
    have hd2 : decide ((l.length : Int) < (l.length : Int)) = false := decide_eq_false (by omega)
    simp only [sZ, initT, optI, splice, reduceIte, reduceCtorEq, Nat.reduceEqDiff, Nat.reduceAdd, Nat.reduceSub, Nat.reduceMul, Nat.reduceLeDiff, Nat.reduceLT, Int.reduceLT, Int.reduceLE, Int.reduceToNat, Int.reduceEq, Int.cast_ofNat_Int, hd, hd2]
    refine OutQ.eq (by repeat (first | exact SExt.refl _ | (refine SExt.old ?_ (by first | (simp only [*]; done) | (simp only [upd_none]; assumption) | (simp only [upd_none, *, not_false_eq_true, and_self]; done)) _))) rfl
theorem spec_Ids1 (l : List ByteArray) (hl : l.length < 4611686018427387904) {s : Nat → Option Blk} {k : Nat → Tk} : Spec prg 40 [.sl 1 (l.map encStr) .no, .sl 1 (l.map encStr) .no] s k (.bool true) s k := by
  refine spec_tr prg_mixed tr_pref13_Ids (Nat.le_of_ble_eq_true rfl) rfl ?_
  unfold pc_pref13_Ids rs_pref13_Ids
  simp only [sZ, initT, optI, splice, reduceIte, reduceCtorEq, Nat.reduceEqDiff, Nat.reduceAdd, Nat.reduceSub, Nat.reduceMul, Nat.reduceLeDiff, Nat.reduceLT, Int.reduceLT, Int.reduceLE, Int.reduceToNat, Int.reduceEq, Int.cast_ofNat_Int]
  refine callS_quiet (spec_Before0 l hl) ?_
  simp only [sZ, initT, optI, splice, reduceIte, reduceCtorEq, Nat.reduceEqDiff, Nat.reduceAdd, Nat.reduceSub, Nat.reduceMul, Nat.reduceLeDiff, Nat.reduceLT, Int.reduceLT, Int.reduceLE, Int.reduceToNat, Int.reduceEq, Int.cast_ofNat_Int]
  refine callS_quiet (spec_Before0 l hl) ?_
  simp only [sZ, initT, optI, splice, reduceIte, reduceCtorEq, Nat.reduceEqDiff, Nat.reduceAdd, Nat.reduceSub, Nat.reduceMul, Nat.reduceLeDiff, Nat.reduceLT, Int.reduceLT, Int.reduceLE, Int.reduceToNat, Int.reduceEq, Int.cast_ofNat_Int]
  refine OutQ.eq (by repeat (first | exact SExt.refl _ | (refine SExt.old ?_ (by first | (simp only [*]; done) | (simp only [upd_none]; assumption) | (simp only [upd_none, *, not_false_eq_true, and_self]; done)) _))) rfl
theorem spec_idsV (d : List Obj) (hl : d.length < 1000000) {s : Nat → Option Blk} {k : Nat → Tk} : Spec prg 41 [.agg (encMap d)] s k (.sl 1 ((d.map Obj.id).map encStr) .no) s k := by
  refine spec_tr prg_mixed tr_plaw19_ids (Nat.le_of_ble_eq_true rfl) rfl ?_
  unfold pc_plaw19_ids rs_plaw19_ids
  simp only [sZ, initT, optI, splice, reduceIte, reduceCtorEq, Nat.reduceEqDiff, Nat.reduceAdd, Nat.reduceSub, Nat.reduceMul, Nat.reduceLeDiff, Nat.reduceLT, Int.reduceLT, Int.reduceLE, Int.reduceToNat, Int.reduceEq, Int.cast_ofNat_Int, encMap]
  (with_reducible refine newS_in ?_); intro b1 f1; simp only [upd_none] at f1
  simp only [sZ, initT, optI, splice, reduceIte, reduceCtorEq, Nat.reduceEqDiff, Nat.reduceAdd, Nat.reduceSub, Nat.reduceMul, Nat.reduceLeDiff, Nat.reduceLT, Int.reduceLT, Int.reduceLE, Int.reduceToNat, Int.reduceEq, Int.cast_ofNat_Int, f1]
  refine loop_L (α := Tok × (Nat → Tk)) d.length (fun j p => [(1, .ptr b1 0), (3, .sl 1 (((d.take j).map Obj.id).map encStr) p.1), (4, .int .i64 j)]) (fun _ _ => upd s b1 (some (.cells [.sl 6 (d.map encObj) .no]))) (fun _ p => p.2)
    (fun _ p => KExt k p.2 ∧ TokA k p.2 9 p.1) (.nil, k) (by repeat (first | exact SExt.refl _ | (refine SExt.old ?_ (by first | (simp only [*]; done) | (simp only [upd_none]; assumption) | (simp only [upd_none, *, not_false_eq_true, and_self]; done)) _))) rfl (by (try simp only [TabLe_cons, TabLe_nil, tab_cons, tab_nil, upd_apply, Nat.reduceEqDiff, reduceIte, and_true]); repeat' (first | exact trivial | exact A.le_refl _ | exact le_strip_no _ _ _ | exact A.le_no _ _ _ | exact A.le_empty _ _ _ | refine And.intro ?_ ?_)) ⟨KExt.refl _, .inl rfl⟩ ?_
  rintro j ⟨tok, k'⟩ hj ⟨hk, htok⟩
  dsimp only at hk htok ⊢
  simp only [sZ, initT, optI, splice, reduceIte, reduceCtorEq, Nat.reduceEqDiff, Nat.reduceAdd, Nat.reduceSub, Nat.reduceMul, Nat.reduceLeDiff, Nat.reduceLT, Int.reduceLT, Int.reduceLE, Int.reduceToNat, Int.reduceEq, Int.cast_ofNat_Int, f1]
  refine brC_in (fun hlt => ?_) (fun hge => ?_)
  · have hj' : j < d.length := by have := of_decide_eq_true hlt; omega
    clear hlt
    have hw := wrap_succ hj' (by omega)
    have hg : (d.map encObj)[j]? = some (encObj d[j]) := objE.get hj'
    simp only [sZ, initT, optI, splice, reduceIte, reduceCtorEq, Nat.reduceEqDiff, Nat.reduceAdd, Nat.reduceSub, Nat.reduceMul, Nat.reduceLeDiff, Nat.reduceLT, Int.reduceLT, Int.reduceLE, Int.reduceToNat, Int.reduceEq, Int.cast_ofNat_Int, f1, hg, len_encObj, wh_encObj, st_encObj, id_obj, encObj_0]
    refine app_in hk htok (by simp; omega) fun tok2 k2 hk2 htok2 => ?_
    simp only [sZ, initT, optI, splice, reduceIte, reduceCtorEq, Nat.reduceEqDiff, Nat.reduceAdd, Nat.reduceSub, Nat.reduceMul, Nat.reduceLeDiff, Nat.reduceLT, Int.reduceLT, Int.reduceLE, Int.reduceToNat, Int.reduceEq, Int.cast_ofNat_Int, hw]
    refine next_L hj' (tok2, k2) (SExt.refl _) rfl ?_ ⟨hk2, htok2⟩
    have e1 : ((d.take (j + 1)).map Obj.id).map encStr = ((d.take j).map Obj.id).map encStr ++ [[.str d[j].id]] := by rw [List.take_succ_eq_append_getElem hj', List.map_append, List.map_append]; rfl
    rw [e1]
    exact (by (try simp only [TabLe_cons, TabLe_nil, tab_cons, tab_nil, upd_apply, Nat.reduceEqDiff, reduceIte, and_true]); repeat' (first | exact trivial | exact A.le_refl _ | exact le_strip_no _ _ _ | exact A.le_no _ _ _ | exact A.le_empty _ _ _ | refine And.intro ?_ ?_))
  · have hje : j = d.length := by have := of_decide_eq_false hge; omega
    subst hje
    rw [List.take_length]
    simp only [sZ, initT, optI, splice, reduceIte, reduceCtorEq, Nat.reduceEqDiff, Nat.reduceAdd, Nat.reduceSub, Nat.reduceMul, Nat.reduceLeDiff, Nat.reduceLT, Int.reduceLT, Int.reduceLE, Int.reduceToNat, Int.reduceEq, Int.cast_ofNat_Int]
    exact OutQ.lek (by repeat (first | exact SExt.refl _ | (refine SExt.old ?_ (by first | (simp only [*]; done) | (simp only [upd_none]; assumption) | (simp only [upd_none, *, not_false_eq_true, and_self]; done)) _))) hk (le_strip_no _ _ _)
def nodeF (i n : ByteArray) : Obj := ⟨i, 1, 0, 0, [], if n = ⟨#[]⟩ then [] else [⟨viewS, n⟩]⟩
theorem spec_nodeV (i n : ByteArray) {s : Nat → Option Blk} {k : Nat → Tk} : Spec prg 39 [.str i, .str n] s k (.agg (encObj (nodeF i n))) s k := by
  refine spec_tr prg_mixed tr_plaw19_node (Nat.le_of_ble_eq_true rfl) rfl ?_
  unfold pc_plaw19_node rs_plaw19_node nodeF
  by_cases h : n = ⟨#[]⟩
  · rw [if_pos h]
    have hd : (!decide (n = ⟨#[]⟩)) = false := by rw [decide_eq_true h]; rfl
    simp only [sZ, initT, optI, splice, reduceIte, reduceCtorEq, Nat.reduceEqDiff, Nat.reduceAdd, Nat.reduceSub, Nat.reduceMul, Nat.reduceLeDiff, Nat.reduceLT, Int.reduceLT, Int.reduceLE, Int.reduceToNat, Int.reduceEq, Int.cast_ofNat_Int]
    (with_reducible refine newS_in ?_); intro b4 f4; simp only [upd_none] at f4
    simp only [sZ, initT, optI, splice, reduceIte, reduceCtorEq, Nat.reduceEqDiff, Nat.reduceAdd, Nat.reduceSub, Nat.reduceMul, Nat.reduceLeDiff, Nat.reduceLT, Int.reduceLT, Int.reduceLE, Int.reduceToNat, Int.reduceEq, Int.cast_ofNat_Int, f4]
    (with_reducible refine newS_in ?_); intro b5 f5; simp only [upd_none] at f5
    simp only [sZ, initT, optI, splice, reduceIte, reduceCtorEq, Nat.reduceEqDiff, Nat.reduceAdd, Nat.reduceSub, Nat.reduceMul, Nat.reduceLeDiff, Nat.reduceLT, Int.reduceLT, Int.reduceLE, Int.reduceToNat, Int.reduceEq, Int.cast_ofNat_Int, f4, f5, hd]
    exact OutQ.le (by repeat (first | exact SExt.refl _ | (refine SExt.old ?_ (by first | (simp only [*]; done) | (simp only [upd_none]; assumption) | (simp only [upd_none, *, not_false_eq_true, and_self]; done)) _))) (A.le_agg (.cons (A.le_refl _) (.cons (A.le_refl _) (.cons (A.le_refl _) (.cons (A.le_refl _) (.cons (A.le_empty _ _ _) (.cons (A.le_empty _ _ _) .nil)))))))
  · rw [if_neg h]
    have hd : (!decide (n = ⟨#[]⟩)) = true := by rw [decide_eq_false h]; rfl
    simp only [sZ, initT, optI, splice, reduceIte, reduceCtorEq, Nat.reduceEqDiff, Nat.reduceAdd, Nat.reduceSub, Nat.reduceMul, Nat.reduceLeDiff, Nat.reduceLT, Int.reduceLT, Int.reduceLE, Int.reduceToNat, Int.reduceEq, Int.cast_ofNat_Int]
    (with_reducible refine newS_in ?_); intro b4 f4; simp only [upd_none] at f4
    simp only [sZ, initT, optI, splice, reduceIte, reduceCtorEq, Nat.reduceEqDiff, Nat.reduceAdd, Nat.reduceSub, Nat.reduceMul, Nat.reduceLeDiff, Nat.reduceLT, Int.reduceLT, Int.reduceLE, Int.reduceToNat, Int.reduceEq, Int.cast_ofNat_Int, f4]
    (with_reducible refine newS_in ?_); intro b5 f5; simp only [upd_none] at f5
    simp only [sZ, initT, optI, splice, reduceIte, reduceCtorEq, Nat.reduceEqDiff, Nat.reduceAdd, Nat.reduceSub, Nat.reduceMul, Nat.reduceLeDiff, Nat.reduceLT, Int.reduceLT, Int.reduceLE, Int.reduceToNat, Int.reduceEq, Int.cast_ofNat_Int, f4, f5, hd]
    exact OutQ.le (by repeat (first | exact SExt.refl _ | (refine SExt.old ?_ (by first | (simp only [*]; done) | (simp only [upd_none]; assumption) | (simp only [upd_none, *, not_false_eq_true, and_self]; done)) _))) (A.le_agg (.cons (A.le_refl _) (.cons (A.le_refl _) (.cons (A.le_refl _) (.cons (A.le_refl _) (.cons (A.le_empty _ _ _) (.cons (A.le_no _ _ _) .nil)))))))
def norS : ByteArray := ⟨#[110, 111, 114, 116, 104]⟩
def souS : ByteArray := ⟨#[115, 111, 117, 116, 104]⟩
def hMapV : List Obj := [nodeF ⟨#[97]⟩ ⟨#[]⟩, nodeF ⟨#[98]⟩ norS, nodeF ⟨#[99]⟩ souS, nodeF ⟨#[100]⟩ ⟨#[49]⟩]
theorem hv_of1 : (ofF hMapV norS).map Obj.id = [⟨#[97]⟩, ⟨#[98]⟩, ⟨#[100]⟩] := by kernel_rfl
theorem hv_of2 : (ofF hMapV ⟨#[]⟩).map Obj.id = [⟨#[97]⟩, ⟨#[100]⟩] := by kernel_rfl
theorem hv_com : (comF hMapV).map Obj.id = [⟨#[97]⟩, ⟨#[100]⟩] := by kernel_rfl
theorem hv_dis : disF hMapV = [⟨#[98]⟩, ⟨#[99]⟩] := by kernel_rfl
theorem hv_keys : (keysN hMapV).map Prod.fst = [norS, souS] := by kernel_rfl
theorem sortB_id {l : List ByteArray} (h : l.Pairwise fun x y => rawB x ≤ rawB y) : sortB l = l := by
  refine List.Perm.eq_of_pairwise (le := fun x y => rawB x ≤ rawB y) (fun x y _ _ h1 h2 => ?_) (sortB_sorted l) h (sortB_perm l)
  have : rawB x = rawB y := List.le_antisymm h1 h2
  rw [← ofRaw_rawB x, ← ofRaw_rawB y, this]
theorem hv_names : namesF hMapV = [norS, souS] := by
  unfold namesF
  rw [hv_keys]
  refine sortB_id (.cons (fun y hy => ?_) (.cons (fun y hy => by cases hy) .nil))
  simp only [List.mem_cons, List.not_mem_nil, or_false] at hy
  subst hy
  show [110, 111, 114, 116, 104] ≤ [115, 111, 117, 116, 104]
  decide
theorem fitV : MapFit hMapV := by
  have hO : ∀ (i n : ByteArray), i.size ≤ 1 → n.size ≤ 5 → ObjFit (nodeF i n) := fun i n h1 h2 => by
    refine ⟨by show i.size < _; omega, by show (0 : Nat) < _; omega, fun r hr => (by cases hr), ?_, ?_⟩
    · unfold nodeF
      dsimp only
      split
      · show 0 < _; omega
      · show 1 < _; omega
    · unfold nodeF
      dsimp only
      split
      · intro t ht; cases ht
      · intro t ht
        simp only [List.mem_cons, List.not_mem_nil, or_false] at ht
        subst ht
        exact ⟨by show (4 : Nat) < _; omega, by show n.size < _; omega⟩
  refine ⟨by decide, fun o ho => ?_⟩
  simp only [hMapV, List.mem_cons, List.not_mem_nil, or_false] at ho
  rcases ho with rfl | rfl | rfl | rfl
  · exact hO _ _ (by decide) (by decide)
  · exact hO _ _ (by decide) (by decide)
  · exact hO _ _ (by decide) (by decide)
  · exact hO _ _ (by decide) (by decide)
theorem le_one (l : List ByteArray) (t : Tok) : A.lel [.sl 1 (l.map encStr) .no, .sl 1 (l.map encStr) t] [.sl 1 (l.map encStr) .no, .sl 1 (l.map encStr) .no] := .cons (A.le_refl _) (.cons (A.le_no _ _ _) .nil)
theorem spec_headV {s : Nat → Option Blk} {k : Nat → Tk} : Spec prg 11 [] s k (.bool true) s k := by
  refine spec_tr prg_mixed tr_plaw19_head (Nat.le_of_ble_eq_true rfl) rfl ?_
  unfold pc_plaw19_head rs_plaw19_head
  have hN := fun i n s k => @spec_nodeV i n s k
  have hmA : ∀ t, A.le (.agg [.sl 6 (hMapV.map encObj) t]) (.agg (encMap hMapV)) := fun t => A.le_agg (.cons (A.le_no _ _ _) .nil)
  have F1 : ∀ t s k, Spec prg 16 [.agg [.sl 6 (hMapV.map encObj) t], .str norS] s k (.agg (encMap (ofF hMapV norS))) s k := fun t s k => Spec.args (spec_Of hMapV fitV (by decide) norS) (.cons (hmA t) (.cons (A.le_refl _) .nil))
  have F2 : ∀ t s k, Spec prg 16 [.agg [.sl 6 (hMapV.map encObj) t], .str ⟨#[]⟩] s k (.agg (encMap (ofF hMapV ⟨#[]⟩))) s k := fun t s k => Spec.args (spec_Of hMapV fitV (by decide) ⟨#[]⟩) (.cons (hmA t) (.cons (A.le_refl _) .nil))
  have F3 : ∀ t s k, Spec prg 14 [.agg [.sl 6 (hMapV.map encObj) t]] s k (.agg (encMap (comF hMapV))) s k := fun t s k => Spec.args (spec_Common hMapV fitV (by decide)) (.cons (hmA t) .nil)
  have F4 : ∀ t s k, Spec prg 42 [.agg [.sl 6 (hMapV.map encObj) t]] s k (.sl 1 ([norS, souS].map encStr) .no) s k := fun t s k => Spec.args (hv_names ▸ spec_ViewNames hMapV fitV (by decide)) (.cons (hmA t) .nil)
  have F5 : ∀ t s k, Spec prg 15 [.agg [.sl 6 (hMapV.map encObj) t]] s k (.sl 1 ([⟨#[98]⟩, ⟨#[99]⟩].map encStr) .no) s k := fun t s k => Spec.args (hv_dis ▸ spec_Disputed hMapV fitV (by decide)) (.cons (hmA t) .nil)
  have G1 : ∀ s k, Spec prg 41 [.agg (encMap (ofF hMapV norS))] s k (.sl 1 ([⟨#[97]⟩, ⟨#[98]⟩, ⟨#[100]⟩].map encStr) .no) s k := fun s k => hv_of1 ▸ spec_idsV (ofF hMapV norS) (Nat.lt_of_le_of_lt (wantF_le _ _) (by decide))
  have G2 : ∀ s k, Spec prg 41 [.agg (encMap (ofF hMapV ⟨#[]⟩))] s k (.sl 1 ([⟨#[97]⟩, ⟨#[100]⟩].map encStr) .no) s k := fun s k => hv_of2 ▸ spec_idsV (ofF hMapV ⟨#[]⟩) (Nat.lt_of_le_of_lt (wantF_le _ _) (by decide))
  have G3 : ∀ s k, Spec prg 41 [.agg (encMap (comF hMapV))] s k (.sl 1 ([⟨#[97]⟩, ⟨#[100]⟩].map encStr) .no) s k := fun s k => hv_com ▸ spec_idsV (comF hMapV) (Nat.lt_of_le_of_lt (wantF_le _ _) (by decide))
  have I : ∀ (l : List ByteArray) (t : Tok) s k, l.length < 10 → Spec prg 40 [.sl 1 (l.map encStr) .no, .sl 1 (l.map encStr) t] s k (.bool true) s k := fun l t s k hl => Spec.args (spec_Ids1 l (by omega)) (le_one l t)
  have hL : [encObj (nodeF ⟨#[97]⟩ ⟨#[]⟩), encObj (nodeF ⟨#[98]⟩ ⟨#[110, 111, 114, 116, 104]⟩), encObj (nodeF ⟨#[99]⟩ ⟨#[115, 111, 117, 116, 104]⟩), encObj (nodeF ⟨#[100]⟩ ⟨#[49]⟩)] = hMapV.map encObj := rfl
  generalize hMapV.map encObj = hml at *
  generalize encMap (ofF hMapV norS) = m1 at *
  generalize encMap (ofF hMapV ⟨#[]⟩) = m2 at *
  generalize encMap (comF hMapV) = m3 at *
  clear hmA
  simp only [sZ, initT, optI, splice, reduceIte, reduceCtorEq, Nat.reduceEqDiff, Nat.reduceAdd, Nat.reduceSub, Nat.reduceMul, Nat.reduceLeDiff, Nat.reduceLT, Int.reduceLT, Int.reduceLE, Int.reduceToNat, Int.reduceEq, Int.cast_ofNat_Int]
  refine callS_quiet (hN _ _ _ _) ?_
  simp only [sZ, initT, optI, splice, reduceIte, reduceCtorEq, Nat.reduceEqDiff, Nat.reduceAdd, Nat.reduceSub, Nat.reduceMul, Nat.reduceLeDiff, Nat.reduceLT, Int.reduceLT, Int.reduceLE, Int.reduceToNat, Int.reduceEq, Int.cast_ofNat_Int]
  refine callS_quiet (hN _ _ _ _) ?_
  simp only [sZ, initT, optI, splice, reduceIte, reduceCtorEq, Nat.reduceEqDiff, Nat.reduceAdd, Nat.reduceSub, Nat.reduceMul, Nat.reduceLeDiff, Nat.reduceLT, Int.reduceLT, Int.reduceLE, Int.reduceToNat, Int.reduceEq, Int.cast_ofNat_Int]
  refine callS_quiet (hN _ _ _ _) ?_
  simp only [sZ, initT, optI, splice, reduceIte, reduceCtorEq, Nat.reduceEqDiff, Nat.reduceAdd, Nat.reduceSub, Nat.reduceMul, Nat.reduceLeDiff, Nat.reduceLT, Int.reduceLT, Int.reduceLE, Int.reduceToNat, Int.reduceEq, Int.cast_ofNat_Int]
  refine callS_quiet (hN _ _ _ _) ?_
  simp only [sZ, initT, optI, splice, reduceIte, reduceCtorEq, Nat.reduceEqDiff, Nat.reduceAdd, Nat.reduceSub, Nat.reduceMul, Nat.reduceLeDiff, Nat.reduceLT, Int.reduceLT, Int.reduceLE, Int.reduceToNat, Int.reduceEq, Int.cast_ofNat_Int, len_encObj, wh_encObj, st_encObj, hL]
  (with_reducible refine newS_in ?_); intro b1 f1; simp only [upd_none] at f1
  simp only [sZ, initT, optI, splice, reduceIte, reduceCtorEq, Nat.reduceEqDiff, Nat.reduceAdd, Nat.reduceSub, Nat.reduceMul, Nat.reduceLeDiff, Nat.reduceLT, Int.reduceLT, Int.reduceLE, Int.reduceToNat, Int.reduceEq, Int.cast_ofNat_Int, f1]
  refine callS_quiet (F1 _ _ _) ?_
  simp only [sZ, initT, optI, splice, reduceIte, reduceCtorEq, Nat.reduceEqDiff, Nat.reduceAdd, Nat.reduceSub, Nat.reduceMul, Nat.reduceLeDiff, Nat.reduceLT, Int.reduceLT, Int.reduceLE, Int.reduceToNat, Int.reduceEq, Int.cast_ofNat_Int, f1]
  refine callS_quiet (G1 _ _) ?_
  simp only [sZ, initT, optI, splice, reduceIte, reduceCtorEq, Nat.reduceEqDiff, Nat.reduceAdd, Nat.reduceSub, Nat.reduceMul, Nat.reduceLeDiff, Nat.reduceLT, Int.reduceLT, Int.reduceLE, Int.reduceToNat, Int.reduceEq, Int.cast_ofNat_Int, f1]
  refine callS_quiet (I [⟨#[97]⟩, ⟨#[98]⟩, ⟨#[100]⟩] _ _ _ (by decide)) ?_
  simp only [sZ, initT, optI, splice, reduceIte, reduceCtorEq, Nat.reduceEqDiff, Nat.reduceAdd, Nat.reduceSub, Nat.reduceMul, Nat.reduceLeDiff, Nat.reduceLT, Int.reduceLT, Int.reduceLE, Int.reduceToNat, Int.reduceEq, Int.cast_ofNat_Int, f1]
  refine callS_quiet (F2 _ _ _) ?_
  simp only [sZ, initT, optI, splice, reduceIte, reduceCtorEq, Nat.reduceEqDiff, Nat.reduceAdd, Nat.reduceSub, Nat.reduceMul, Nat.reduceLeDiff, Nat.reduceLT, Int.reduceLT, Int.reduceLE, Int.reduceToNat, Int.reduceEq, Int.cast_ofNat_Int, f1]
  refine callS_quiet (G2 _ _) ?_
  simp only [sZ, initT, optI, splice, reduceIte, reduceCtorEq, Nat.reduceEqDiff, Nat.reduceAdd, Nat.reduceSub, Nat.reduceMul, Nat.reduceLeDiff, Nat.reduceLT, Int.reduceLT, Int.reduceLE, Int.reduceToNat, Int.reduceEq, Int.cast_ofNat_Int, f1]
  refine callS_quiet (I [⟨#[97]⟩, ⟨#[100]⟩] _ _ _ (by decide)) ?_
  simp only [sZ, initT, optI, splice, reduceIte, reduceCtorEq, Nat.reduceEqDiff, Nat.reduceAdd, Nat.reduceSub, Nat.reduceMul, Nat.reduceLeDiff, Nat.reduceLT, Int.reduceLT, Int.reduceLE, Int.reduceToNat, Int.reduceEq, Int.cast_ofNat_Int, f1]
  refine callS_quiet (F3 _ _ _) ?_
  simp only [sZ, initT, optI, splice, reduceIte, reduceCtorEq, Nat.reduceEqDiff, Nat.reduceAdd, Nat.reduceSub, Nat.reduceMul, Nat.reduceLeDiff, Nat.reduceLT, Int.reduceLT, Int.reduceLE, Int.reduceToNat, Int.reduceEq, Int.cast_ofNat_Int, f1]
  refine callS_quiet (G3 _ _) ?_
  simp only [sZ, initT, optI, splice, reduceIte, reduceCtorEq, Nat.reduceEqDiff, Nat.reduceAdd, Nat.reduceSub, Nat.reduceMul, Nat.reduceLeDiff, Nat.reduceLT, Int.reduceLT, Int.reduceLE, Int.reduceToNat, Int.reduceEq, Int.cast_ofNat_Int, f1]
  refine callS_quiet (I [⟨#[97]⟩, ⟨#[100]⟩] _ _ _ (by decide)) ?_
  simp only [sZ, initT, optI, splice, reduceIte, reduceCtorEq, Nat.reduceEqDiff, Nat.reduceAdd, Nat.reduceSub, Nat.reduceMul, Nat.reduceLeDiff, Nat.reduceLT, Int.reduceLT, Int.reduceLE, Int.reduceToNat, Int.reduceEq, Int.cast_ofNat_Int, f1]
  refine callS_quiet (F4 _ _ _) ?_
  simp only [sZ, initT, optI, splice, reduceIte, reduceCtorEq, Nat.reduceEqDiff, Nat.reduceAdd, Nat.reduceSub, Nat.reduceMul, Nat.reduceLeDiff, Nat.reduceLT, Int.reduceLT, Int.reduceLE, Int.reduceToNat, Int.reduceEq, Int.cast_ofNat_Int, f1]
  refine callS_quiet (I [norS, souS] _ _ _ (by decide)) ?_
  simp only [sZ, initT, optI, splice, reduceIte, reduceCtorEq, Nat.reduceEqDiff, Nat.reduceAdd, Nat.reduceSub, Nat.reduceMul, Nat.reduceLeDiff, Nat.reduceLT, Int.reduceLT, Int.reduceLE, Int.reduceToNat, Int.reduceEq, Int.cast_ofNat_Int, f1]
  refine callS_quiet (F5 _ _ _) ?_
  simp only [sZ, initT, optI, splice, reduceIte, reduceCtorEq, Nat.reduceEqDiff, Nat.reduceAdd, Nat.reduceSub, Nat.reduceMul, Nat.reduceLeDiff, Nat.reduceLT, Int.reduceLT, Int.reduceLE, Int.reduceToNat, Int.reduceEq, Int.cast_ofNat_Int, f1]
  refine callS_quiet (I [⟨#[98]⟩, ⟨#[99]⟩] _ _ _ (by decide)) ?_
  simp only [sZ, initT, optI, splice, reduceIte, reduceCtorEq, Nat.reduceEqDiff, Nat.reduceAdd, Nat.reduceSub, Nat.reduceMul, Nat.reduceLeDiff, Nat.reduceLT, Int.reduceLT, Int.reduceLE, Int.reduceToNat, Int.reduceEq, Int.cast_ofNat_Int, f1]
  refine OutQ.eq (by repeat (first | exact SExt.refl _ | (refine SExt.old ?_ (by first | (simp only [*]; done) | (simp only [upd_none]; assumption) | (simp only [upd_none, *, not_false_eq_true, and_self]; done)) _))) rfl
theorem spec_fewV (m : List Obj) {s : Nat → Option Blk} {k : Nat → Tk} : Spec prg 12 [.agg (encMap m)] s k (.bool (!decide ((40 : Int) < m.length) && m.all fewM)) s k := by
  refine spec_tr prg_mixed tr_plaw19_few (Nat.le_of_ble_eq_true rfl) rfl ?_
  unfold pc_plaw19_few rs_plaw19_few
  have h14 := fun s k => @spec14 m 40 (by decide) s k
  generalize (!decide ((40 : Int) < m.length) && m.all fewM) = r at *
  simp only [encMap] at h14
  simp only [sZ, initT, optI, splice, reduceIte, reduceCtorEq, Nat.reduceEqDiff, Nat.reduceAdd, Nat.reduceSub, Nat.reduceMul, Nat.reduceLeDiff, Nat.reduceLT, Int.reduceLT, Int.reduceLE, Int.reduceToNat, Int.reduceEq, Int.cast_ofNat_Int, encMap]
  (with_reducible refine newS_in ?_); intro b1 f1; simp only [upd_none] at f1
  simp only [sZ, initT, optI, splice, reduceIte, reduceCtorEq, Nat.reduceEqDiff, Nat.reduceAdd, Nat.reduceSub, Nat.reduceMul, Nat.reduceLeDiff, Nat.reduceLT, Int.reduceLT, Int.reduceLE, Int.reduceToNat, Int.reduceEq, Int.cast_ofNat_Int, f1]
  refine callS_quiet (h14 _ _) ?_
  simp only [sZ, initT, optI, splice, reduceIte, reduceCtorEq, Nat.reduceEqDiff, Nat.reduceAdd, Nat.reduceSub, Nat.reduceMul, Nat.reduceLeDiff, Nat.reduceLT, Int.reduceLT, Int.reduceLE, Int.reduceToNat, Int.reduceEq, Int.cast_ofNat_Int, f1]
  refine OutQ.eq (by repeat (first | exact SExt.refl _ | (refine SExt.old ?_ (by first | (simp only [*]; done) | (simp only [upd_none]; assumption) | (simp only [upd_none, *, not_false_eq_true, and_self]; done)) _))) rfl
end Go.Pv
