/- Views: what is wanted of a map. -/
import Derived.Test.YtlcacobkiglmbaaSamV
import Derived.Test.YtlcacobkiglmbaaFewV
set_option linter.unusedVariables false
set_option linter.unusedSimpArgs false
set_option maxRecDepth 4000
set_option maxHeartbeats 2000000
namespace Go.Pv
open Go

def tagG (l : List Tag) (key : ByteArray) : ByteArray × Bool := match l.find? (fun t => decide (t.key = key)) with
  | some t => (t.val, true)
  | none => (⟨#[]⟩, false)
theorem spec_get (l : List Tag) (key : ByteArray) (hl : l.length < 4611686018427387904) {s : Nat → Option Blk} {k : Nat → Tk} : Spec prg 21 [.sl 2 (l.map encTag) .no, .str key] s k (.tup [.str (tagG l key).1, .bool (tagG l key).2]) s k := by
  refine spec_tr prg_mixed tr_tag_Get (Nat.le_of_ble_eq_true rfl) rfl ?_
  unfold pc_tag_Get rs_tag_Get
  simp only [sZ, initT, optI, splice, reduceIte, reduceCtorEq, Nat.reduceEqDiff, Nat.reduceAdd, Nat.reduceSub, Nat.reduceMul, Nat.reduceLeDiff, Nat.reduceLT, Int.reduceLT, Int.reduceLE, Int.reduceToNat, Int.reduceEq, Int.cast_ofNat_Int]
  refine loop_L (α := Unit) l.length (fun j _ => [(1, .str key), (8, .sl 2 (l.map encTag) .no), (9, .int .i64 l.length), (10, .int .i64 j)]) (fun j _ => s) (fun _ _ => k) (fun j _ => ∀ i (h : i < l.length), i < j → decide (l[i].key = key) = false) () (SExt.refl _) rfl (by (try simp only [TabLe_cons, TabLe_nil, tab_cons, tab_nil, upd_apply, Nat.reduceEqDiff, reduceIte, and_true]); repeat' (first | exact trivial | exact A.le_refl _ | exact le_strip_no _ _ _ | exact A.le_no _ _ _ | exact A.le_empty _ _ _ | refine And.intro ?_ ?_)) (fun i _ h => by omega) ?_
  rintro j ⟨⟩ hj hall
  try dsimp only
  simp only [sZ, initT, optI, splice, reduceIte, reduceCtorEq, Nat.reduceEqDiff, Nat.reduceAdd, Nat.reduceSub, Nat.reduceMul, Nat.reduceLeDiff, Nat.reduceLT, Int.reduceLT, Int.reduceLE, Int.reduceToNat, Int.reduceEq, Int.cast_ofNat_Int]
  refine brC_in (fun hlt => ?_) (fun hge => ?_)
  · have hj' : j < l.length := by have := of_decide_eq_true hlt; omega
    clear hlt
    have hw := wrap_succ hj' (by omega)
    have hg : (l.map encTag)[j]? = some (encTag l[j]) := tagE.get hj'
    simp only [sZ, initT, optI, splice, reduceIte, reduceCtorEq, Nat.reduceEqDiff, Nat.reduceAdd, Nat.reduceSub, Nat.reduceMul, Nat.reduceLeDiff, Nat.reduceLT, Int.reduceLT, Int.reduceLE, Int.reduceToNat, Int.reduceEq, Int.cast_ofNat_Int, hg, encTag]
    (with_reducible refine newS_in ?_); intro b7 f7; simp only [upd_none] at f7
    simp only [sZ, initT, optI, splice, reduceIte, reduceCtorEq, Nat.reduceEqDiff, Nat.reduceAdd, Nat.reduceSub, Nat.reduceMul, Nat.reduceLeDiff, Nat.reduceLT, Int.reduceLT, Int.reduceLE, Int.reduceToNat, Int.reduceEq, Int.cast_ofNat_Int, f7]
    refine brC_in (fun h1 => ?_) (fun h1 => ?_)
    · simp only [sZ, initT, optI, splice, reduceIte, reduceCtorEq, Nat.reduceEqDiff, Nat.reduceAdd, Nat.reduceSub, Nat.reduceMul, Nat.reduceLeDiff, Nat.reduceLT, Int.reduceLT, Int.reduceLE, Int.reduceToNat, Int.reduceEq, Int.cast_ofNat_Int, f7]
      have hfd : l.find? (fun t => decide (t.key = key)) = some l[j] := by
        rw [List.find?_eq_some_iff_getElem]
        exact ⟨h1, j, hj', rfl, fun i hi => by rw [hall i (by omega) hi]; rfl⟩
      have hG : tagG l key = (l[j].val, true) := by unfold tagG; rw [hfd]
      rw [hG]
      refine OutQ.eq (by repeat (first | exact SExt.refl _ | (refine SExt.old ?_ (by first | (simp only [*]; done) | (simp only [upd_none]; assumption) | (simp only [upd_none, *, not_false_eq_true, and_self]; done)) _))) rfl
    · simp only [sZ, initT, optI, splice, reduceIte, reduceCtorEq, Nat.reduceEqDiff, Nat.reduceAdd, Nat.reduceSub, Nat.reduceMul, Nat.reduceLeDiff, Nat.reduceLT, Int.reduceLT, Int.reduceLE, Int.reduceToNat, Int.reduceEq, Int.cast_ofNat_Int, hw]
      refine next_L hj' () (by repeat (first | exact SExt.refl _ | (refine SExt.old ?_ (by first | (simp only [*]; done) | (simp only [upd_none]; assumption) | (simp only [upd_none, *, not_false_eq_true, and_self]; done)) _))) rfl (by (try simp only [TabLe_cons, TabLe_nil, tab_cons, tab_nil, upd_apply, Nat.reduceEqDiff, reduceIte, and_true]); repeat' (first | exact trivial | exact A.le_refl _ | exact le_strip_no _ _ _ | exact A.le_no _ _ _ | exact A.le_empty _ _ _ | refine And.intro ?_ ?_)) fun i hi h3 => ?_
      by_cases hij : i = j
      · subst hij; exact h1
      · exact hall i hi (by omega)
  · have hje : j = l.length := by have := of_decide_eq_false hge; omega
    subst hje
    have hfd : l.find? (fun t => decide (t.key = key)) = none := by
      rw [List.find?_eq_none]
      intro t ht
      obtain ⟨i, hi, rfl⟩ := List.getElem_of_mem ht
      rw [hall i hi hi]
      simp
    have hG : tagG l key = (⟨#[]⟩, false) := by unfold tagG; rw [hfd]
    rw [hG]
    simp only [sZ, initT, optI, splice, reduceIte, reduceCtorEq, Nat.reduceEqDiff, Nat.reduceAdd, Nat.reduceSub, Nat.reduceMul, Nat.reduceLeDiff, Nat.reduceLT, Int.reduceLT, Int.reduceLE, Int.reduceToNat, Int.reduceEq, Int.cast_ofNat_Int]
    refine OutQ.eq (by repeat (first | exact SExt.refl _ | (refine SExt.old ?_ (by first | (simp only [*]; done) | (simp only [upd_none]; assumption) | (simp only [upd_none, *, not_false_eq_true, and_self]; done)) _))) rfl

def viewS : ByteArray := ⟨#[118, 105, 101, 119]⟩
def ownF (o : Obj) : ByteArray × Bool := ((tagG o.tags viewS).1, (tagG o.tags viewS).2 && nameF (tagG o.tags viewS).1)
theorem tagG_size {l : List Tag} {key : ByteArray} (h : ∀ t ∈ l, TagFit t) : (tagG l key).1.size < 4611686018427387904 := by
  unfold tagG
  split
  · rename_i t ht; exact (h t (List.mem_of_find?_eq_some ht)).val
  · decide
theorem spec_own (o : Obj) (hf : ObjFit o) {s : Nat → Option Blk} {k : Nat → Tk} : Spec prg 87 [.agg (encObj o)] s k (.tup [.str (ownF o).1, .bool (ownF o).2]) s k := by
  refine spec_tr prg_mixed tr_view_own (Nat.le_of_ble_eq_true rfl) rfl ?_
  unfold pc_view_own rs_view_own
  have ho : ownF o = ((tagG o.tags viewS).1, (tagG o.tags viewS).2 && nameF (tagG o.tags viewS).1) := rfl
  have hg := fun s k => @spec_get o.tags viewS hf.tags s k
  have hs := @tagG_size o.tags viewS hf.tag
  have hn := fun s k => @spec_Name (tagG o.tags viewS).1 hs s k
  rw [ho]
  generalize tagG o.tags viewS = g at *
  obtain ⟨v, b⟩ := g
  dsimp only at *
  obtain ⟨id, kind, x, y, refs, tags⟩ := o
  dsimp only at hg
  simp only [sZ, initT, optI, splice, reduceIte, reduceCtorEq, Nat.reduceEqDiff, Nat.reduceAdd, Nat.reduceSub, Nat.reduceMul, Nat.reduceLeDiff, Nat.reduceLT, Int.reduceLT, Int.reduceLE, Int.reduceToNat, Int.reduceEq, Int.cast_ofNat_Int, encObj]
  (with_reducible refine newS_in ?_); intro b1 f1; simp only [upd_none] at f1
  simp only [sZ, initT, optI, splice, reduceIte, reduceCtorEq, Nat.reduceEqDiff, Nat.reduceAdd, Nat.reduceSub, Nat.reduceMul, Nat.reduceLeDiff, Nat.reduceLT, Int.reduceLT, Int.reduceLE, Int.reduceToNat, Int.reduceEq, Int.cast_ofNat_Int, f1]
  refine callS_quiet (hg _ _) ?_
  cases b
  · simp only [sZ, initT, optI, splice, reduceIte, reduceCtorEq, Nat.reduceEqDiff, Nat.reduceAdd, Nat.reduceSub, Nat.reduceMul, Nat.reduceLeDiff, Nat.reduceLT, Int.reduceLT, Int.reduceLE, Int.reduceToNat, Int.reduceEq, Int.cast_ofNat_Int, f1]
    refine OutQ.eq (by repeat (first | exact SExt.refl _ | (refine SExt.old ?_ (by first | (simp only [*]; done) | (simp only [upd_none]; assumption) | (simp only [upd_none, *, not_false_eq_true, and_self]; done)) _))) rfl
  · simp only [sZ, initT, optI, splice, reduceIte, reduceCtorEq, Nat.reduceEqDiff, Nat.reduceAdd, Nat.reduceSub, Nat.reduceMul, Nat.reduceLeDiff, Nat.reduceLT, Int.reduceLT, Int.reduceLE, Int.reduceToNat, Int.reduceEq, Int.cast_ofNat_Int, f1]
    refine callS_quiet (hn _ _) ?_
    simp only [sZ, initT, optI, splice, reduceIte, reduceCtorEq, Nat.reduceEqDiff, Nat.reduceAdd, Nat.reduceSub, Nat.reduceMul, Nat.reduceLeDiff, Nat.reduceLT, Int.reduceLT, Int.reduceLE, Int.reduceToNat, Int.reduceEq, Int.cast_ofNat_Int, f1]
    refine OutQ.eq (by repeat (first | exact SExt.refl _ | (refine SExt.old ?_ (by first | (simp only [*]; done) | (simp only [upd_none]; assumption) | (simp only [upd_none, *, not_false_eq_true, and_self]; done)) _))) rfl
theorem spec_objects_1 (o : Obj) (hf : ObjFit o) (fid : FuncId) (caps : List A) (p : ByteArray → Bool → Bool) {s : Nat → Option Blk} {k : Nat → Tk} {wb : Nat} (hw : s wb = some (.cells [.fn fid caps]))
    (hp : ∀ s', SExt s s' → Spec prg fid (.str (ownF o).1 :: .bool (ownF o).2 :: caps) s' k (.bool (p (ownF o).1 (ownF o).2)) s' k) : Spec prg 86 [.agg (encObj o), .ptr wb 0] s k (.bool (p (ownF o).1 (ownF o).2)) s k := by
  refine spec_tr prg_mixed tr_view_objects_1 (Nat.le_of_ble_eq_true rfl) rfl ?_
  unfold pc_view_objects_1 rs_view_objects_1
  have hown := fun s k => @spec_own o hf s k
  generalize ownF o = g at *
  obtain ⟨v, b⟩ := g
  dsimp only at *
  simp only [sZ, initT, optI, splice, reduceIte, reduceCtorEq, Nat.reduceEqDiff, Nat.reduceAdd, Nat.reduceSub, Nat.reduceMul, Nat.reduceLeDiff, Nat.reduceLT, Int.reduceLT, Int.reduceLE, Int.reduceToNat, Int.reduceEq, Int.cast_ofNat_Int, len_encObj, wh_encObj, st_encObj]
  (with_reducible refine newS_in ?_); intro b2 f2; simp only [upd_none] at f2
  have n1 : ¬ wb = b2 := fun e => by subst e; rw [hw] at f2; cases f2
  simp only [sZ, initT, optI, splice, reduceIte, reduceCtorEq, Nat.reduceEqDiff, Nat.reduceAdd, Nat.reduceSub, Nat.reduceMul, Nat.reduceLeDiff, Nat.reduceLT, Int.reduceLT, Int.reduceLE, Int.reduceToNat, Int.reduceEq, Int.cast_ofNat_Int, f2, n1, hw, len_encObj, wh_encObj, st_encObj]
  refine callQS_quiet (hown _ _) ?_
  simp only [sZ, initT, optI, splice, reduceIte, reduceCtorEq, Nat.reduceEqDiff, Nat.reduceAdd, Nat.reduceSub, Nat.reduceMul, Nat.reduceLeDiff, Nat.reduceLT, Int.reduceLT, Int.reduceLE, Int.reduceToNat, Int.reduceEq, Int.cast_ofNat_Int, f2, n1, hw]
  refine callS_quiet (hp _ (by repeat (first | exact SExt.refl _ | (refine SExt.old ?_ (by first | (simp only [*]; done) | (simp only [upd_none]; assumption) | (simp only [upd_none, *, not_false_eq_true, and_self]; done)) _)))) ?_
  simp only [sZ, initT, optI, splice, reduceIte, reduceCtorEq, Nat.reduceEqDiff, Nat.reduceAdd, Nat.reduceSub, Nat.reduceMul, Nat.reduceLeDiff, Nat.reduceLT, Int.reduceLT, Int.reduceLE, Int.reduceToNat, Int.reduceEq, Int.cast_ofNat_Int, f2]
  refine OutQ.eq (by repeat (first | exact SExt.refl _ | (refine SExt.old ?_ (by first | (simp only [*]; done) | (simp only [upd_none]; assumption) | (simp only [upd_none, *, not_false_eq_true, and_self]; done)) _))) rfl
theorem spec_filter (l : List Obj) (hl : l.length < 1000000) (q : Obj → Bool) (fid : FuncId) (caps : List A) {s : Nat → Option Blk} {k : Nat → Tk}
    (hq : ∀ o ∈ l, ∀ s' k', SExt s s' → Spec prg fid (.agg (encObj o) :: caps) s' k' (.bool (q o)) s' k') : Spec prg 85 [.sl 6 (l.map encObj) .no, .fn fid caps] s k (.sl 6 ((l.filter q).map encObj) .no) s k := by
  refine spec_tr prg_mixed tr_view_filter_Object (Nat.le_of_ble_eq_true rfl) rfl ?_
  unfold pc_view_filter_Object rs_view_filter_Object
  simp only [sZ, initT, optI, splice, reduceIte, reduceCtorEq, Nat.reduceEqDiff, Nat.reduceAdd, Nat.reduceSub, Nat.reduceMul, Nat.reduceLeDiff, Nat.reduceLT, Int.reduceLT, Int.reduceLE, Int.reduceToNat, Int.reduceEq, Int.cast_ofNat_Int]
  refine loop_L (α := Tok × (Nat → Tk)) l.length (fun j p => [(1, .fn fid caps), (5, .sl 6 (((l.take j).filter q).map encObj) p.1), (8, .sl 6 (l.map encObj) .no), (9, .int .i64 l.length), (10, .int .i64 j)]) (fun _ _ => s) (fun _ p => p.2)
    (fun _ p => KExt k p.2 ∧ TokA k p.2 38 p.1) (.nil, k) (SExt.refl _) rfl (by (try simp only [TabLe_cons, TabLe_nil, tab_cons, tab_nil, upd_apply, Nat.reduceEqDiff, reduceIte, and_true]); repeat' (first | exact trivial | exact A.le_refl _ | exact le_strip_no _ _ _ | exact A.le_no _ _ _ | exact A.le_empty _ _ _ | refine And.intro ?_ ?_)) ⟨KExt.refl _, .inl rfl⟩ ?_
  rintro j ⟨tok, k'⟩ hj ⟨hk, htok⟩
  dsimp only at hk htok ⊢
  simp only [sZ, initT, optI, splice, reduceIte, reduceCtorEq, Nat.reduceEqDiff, Nat.reduceAdd, Nat.reduceSub, Nat.reduceMul, Nat.reduceLeDiff, Nat.reduceLT, Int.reduceLT, Int.reduceLE, Int.reduceToNat, Int.reduceEq, Int.cast_ofNat_Int]
  refine brC_in (fun hlt => ?_) (fun hge => ?_)
  · have hj' : j < l.length := by have := of_decide_eq_true hlt; omega
    clear hlt
    have hw := wrap_succ hj' (by omega)
    have hg : (l.map encObj)[j]? = some (encObj l[j]) := objE.get hj'
    have hft := filter_take q l hj'
    have hfl : ((l.take j).filter q).length ≤ j := Nat.le_trans (List.length_filter_le _ _) (by simp; omega)
    simp only [sZ, initT, optI, splice, reduceIte, reduceCtorEq, Nat.reduceEqDiff, Nat.reduceAdd, Nat.reduceSub, Nat.reduceMul, Nat.reduceLeDiff, Nat.reduceLT, Int.reduceLT, Int.reduceLE, Int.reduceToNat, Int.reduceEq, Int.cast_ofNat_Int, hg, len_encObj, wh_encObj, st_encObj]
    (with_reducible refine newS_in ?_); intro b7 f7; simp only [upd_none] at f7
    simp only [sZ, initT, optI, splice, reduceIte, reduceCtorEq, Nat.reduceEqDiff, Nat.reduceAdd, Nat.reduceSub, Nat.reduceMul, Nat.reduceLeDiff, Nat.reduceLT, Int.reduceLT, Int.reduceLE, Int.reduceToNat, Int.reduceEq, Int.cast_ofNat_Int, f7, len_encObj, wh_encObj, st_encObj]
    refine callS_quiet (hq _ (List.getElem_mem hj') _ _ (by repeat (first | exact SExt.refl _ | (refine SExt.old ?_ (by first | (simp only [*]; done) | (simp only [upd_none]; assumption) | (simp only [upd_none, *, not_false_eq_true, and_self]; done)) _)))) ?_
    cases hqj : q l[j]
    · rw [hqj] at hft
      simp only [Bool.false_eq_true, if_false, List.append_nil] at hft
      simp only [sZ, initT, optI, splice, reduceIte, reduceCtorEq, Nat.reduceEqDiff, Nat.reduceAdd, Nat.reduceSub, Nat.reduceMul, Nat.reduceLeDiff, Nat.reduceLT, Int.reduceLT, Int.reduceLE, Int.reduceToNat, Int.reduceEq, Int.cast_ofNat_Int, hw]
      refine next_L hj' (tok, k') (by repeat (first | exact SExt.refl _ | (refine SExt.old ?_ (by first | (simp only [*]; done) | (simp only [upd_none]; assumption) | (simp only [upd_none, *, not_false_eq_true, and_self]; done)) _))) rfl ?_ ⟨hk, htok⟩
      rw [hft]
      exact (by (try simp only [TabLe_cons, TabLe_nil, tab_cons, tab_nil, upd_apply, Nat.reduceEqDiff, reduceIte, and_true]); repeat' (first | exact trivial | exact A.le_refl _ | exact le_strip_no _ _ _ | exact A.le_no _ _ _ | exact A.le_empty _ _ _ | refine And.intro ?_ ?_))
    · rw [hqj] at hft
      simp only [if_true] at hft
      simp only [sZ, initT, optI, splice, reduceIte, reduceCtorEq, Nat.reduceEqDiff, Nat.reduceAdd, Nat.reduceSub, Nat.reduceMul, Nat.reduceLeDiff, Nat.reduceLT, Int.reduceLT, Int.reduceLE, Int.reduceToNat, Int.reduceEq, Int.cast_ofNat_Int, f7, len_encObj, wh_encObj, st_encObj]
      refine app_in hk htok (by simp; omega) fun tok2 k2 hk2 htok2 => ?_
      simp only [sZ, initT, optI, splice, reduceIte, reduceCtorEq, Nat.reduceEqDiff, Nat.reduceAdd, Nat.reduceSub, Nat.reduceMul, Nat.reduceLeDiff, Nat.reduceLT, Int.reduceLT, Int.reduceLE, Int.reduceToNat, Int.reduceEq, Int.cast_ofNat_Int, hw]
      refine next_L hj' (tok2, k2) (by repeat (first | exact SExt.refl _ | (refine SExt.old ?_ (by first | (simp only [*]; done) | (simp only [upd_none]; assumption) | (simp only [upd_none, *, not_false_eq_true, and_self]; done)) _))) rfl ?_ ⟨hk2, htok2⟩
      have e1 : ((l.take (j + 1)).filter q).map encObj = ((l.take j).filter q).map encObj ++ [encObj l[j]] := by rw [hft, List.map_append]; rfl
      rw [e1]
      exact (by (try simp only [TabLe_cons, TabLe_nil, tab_cons, tab_nil, upd_apply, Nat.reduceEqDiff, reduceIte, and_true]); repeat' (first | exact trivial | exact A.le_refl _ | exact le_strip_no _ _ _ | exact A.le_no _ _ _ | exact A.le_empty _ _ _ | refine And.intro ?_ ?_))
  · have hje : j = l.length := by have := of_decide_eq_false hge; omega
    subst hje
    rw [List.take_length]
    simp only [sZ, initT, optI, splice, reduceIte, reduceCtorEq, Nat.reduceEqDiff, Nat.reduceAdd, Nat.reduceSub, Nat.reduceMul, Nat.reduceLeDiff, Nat.reduceLT, Int.reduceLT, Int.reduceLE, Int.reduceToNat, Int.reduceEq, Int.cast_ofNat_Int]
    exact OutQ.lek (SExt.refl _) hk (le_strip_no _ _ _)
def wantF (m : List Obj) (p : ByteArray → Bool → Bool) : List Obj := if mapV m = true then m.filter (fun o => p (ownF o).1 (ownF o).2) else []
theorem spec_objects (m : List Obj) (hm : MapFit m) (hl : m.length < 1000000) (fid : FuncId) (caps : List A) (p : ByteArray → Bool → Bool) {s : Nat → Option Blk} {k : Nat → Tk}
    (hp : ∀ o ∈ m, ∀ s' k', SExt s s' → Spec prg fid (.str (ownF o).1 :: .bool (ownF o).2 :: caps) s' k' (.bool (p (ownF o).1 (ownF o).2)) s' k') : Spec prg 44 [.agg (encMap m), .fn fid caps] s k (.sl 6 ((wantF m p).map encObj) .no) s k := by
  refine spec_tr prg_mixed tr_view_objects (Nat.le_of_ble_eq_true rfl) rfl ?_
  unfold pc_view_objects rs_view_objects
  have hv := fun s k => @spec_map m hm s k
  simp only [encMap] at hv
  simp only [sZ, initT, optI, splice, reduceIte, reduceCtorEq, Nat.reduceEqDiff, Nat.reduceAdd, Nat.reduceSub, Nat.reduceMul, Nat.reduceLeDiff, Nat.reduceLT, Int.reduceLT, Int.reduceLE, Int.reduceToNat, Int.reduceEq, Int.cast_ofNat_Int, encMap]
  (with_reducible refine newS_in ?_); intro b2 f2; simp only [upd_none] at f2
  simp only [sZ, initT, optI, splice, reduceIte, reduceCtorEq, Nat.reduceEqDiff, Nat.reduceAdd, Nat.reduceSub, Nat.reduceMul, Nat.reduceLeDiff, Nat.reduceLT, Int.reduceLT, Int.reduceLE, Int.reduceToNat, Int.reduceEq, Int.cast_ofNat_Int, f2]
  (with_reducible refine newS_in ?_); intro b3 f3; simp only [upd_none] at f3
  simp only [sZ, initT, optI, splice, reduceIte, reduceCtorEq, Nat.reduceEqDiff, Nat.reduceAdd, Nat.reduceSub, Nat.reduceMul, Nat.reduceLeDiff, Nat.reduceLT, Int.reduceLT, Int.reduceLE, Int.reduceToNat, Int.reduceEq, Int.cast_ofNat_Int, f2, f3]
  refine callS_quiet (hv _ _) ?_
  cases hmv : mapV m
  · have : wantF m p = [] := by unfold wantF; rw [hmv]; rfl
    rw [this]
    simp only [sZ, initT, optI, splice, reduceIte, reduceCtorEq, Nat.reduceEqDiff, Nat.reduceAdd, Nat.reduceSub, Nat.reduceMul, Nat.reduceLeDiff, Nat.reduceLT, Int.reduceLT, Int.reduceLE, Int.reduceToNat, Int.reduceEq, Int.cast_ofNat_Int, f2, f3, Bool.not_false]
    exact OutQ.le (by repeat (first | exact SExt.refl _ | (refine SExt.old ?_ (by first | (simp only [*]; done) | (simp only [upd_none]; assumption) | (simp only [upd_none, *, not_false_eq_true, and_self]; done)) _))) (A.le_empty _ _ _)
  · have : wantF m p = m.filter (fun o => p (ownF o).1 (ownF o).2) := by unfold wantF; rw [if_pos hmv]
    rw [this]
    simp only [sZ, initT, optI, splice, reduceIte, reduceCtorEq, Nat.reduceEqDiff, Nat.reduceAdd, Nat.reduceSub, Nat.reduceMul, Nat.reduceLeDiff, Nat.reduceLT, Int.reduceLT, Int.reduceLE, Int.reduceToNat, Int.reduceEq, Int.cast_ofNat_Int, f2, f3, Bool.not_true]
    refine callS_quiet (spec_filter m hl (fun o => p (ownF o).1 (ownF o).2) _ _ (fun o ho s' k' hs' => spec_objects_1 o (hm.obj o ho) fid caps p (wb := b3) ?_ ?_)) ?_
    · rw [hs' b3 (by simp [upd])]
      simp [upd]
    · intro s'' hs''
      refine hp o ho s'' k' ?_
      exact SExt.trans (SExt.trans (by repeat (first | exact SExt.refl _ | (refine SExt.old ?_ (by first | (simp only [*]; done) | (simp only [upd_none]; assumption) | (simp only [upd_none, *, not_false_eq_true, and_self]; done)) _))) hs') hs''
    simp only [sZ, initT, optI, splice, reduceIte, reduceCtorEq, Nat.reduceEqDiff, Nat.reduceAdd, Nat.reduceSub, Nat.reduceMul, Nat.reduceLeDiff, Nat.reduceLT, Int.reduceLT, Int.reduceLE, Int.reduceToNat, Int.reduceEq, Int.cast_ofNat_Int, f2, f3]
    refine OutQ.eq (by repeat (first | exact SExt.refl _ | (refine SExt.old ?_ (by first | (simp only [*]; done) | (simp only [upd_none]; assumption) | (simp only [upd_none, *, not_false_eq_true, and_self]; done)) _))) rfl
end Go.Pv
