/- Views: their maps, what is disputed, what is left without it. -/
import Derived.Test.YtlcacobkiglmbaaVwA
set_option linter.unusedVariables false
set_option linter.unusedSimpArgs false
set_option maxRecDepth 4000
set_option maxHeartbeats 2000000
namespace Go.Pv
open Go

theorem strip_strip (x : A) : x.strip.strip = x.strip := by
  cases x <;> try rfl
  rename_i e xs t
  cases t <;> rfl
def pOf (name x : ByteArray) (b : Bool) : Bool := !b || decide (x = name)
def pCom (x : ByteArray) (b : Bool) : Bool := !b
def pDis (x : ByteArray) (b : Bool) : Bool := b
def ofF (m : List Obj) (name : ByteArray) : List Obj := wantF m (pOf name)
def comF (m : List Obj) : List Obj := wantF m pCom
def disF (m : List Obj) : List ByteArray := (wantF m pDis).map Obj.id
theorem spec_Of_1 (name x : ByteArray) (b : Bool) {nb : Nat} {s : Nat → Option Blk} {k : Nat → Tk} (hn : s nb = some (.cells [.str name])) : Spec prg 47 [.str x, .bool b, .ptr nb 0] s k (.bool (pOf name x b)) s k := by
  refine spec_tr prg_mixed tr_view_Of_1 (Nat.le_of_ble_eq_true rfl) rfl ?_
  unfold pc_view_Of_1 rs_view_Of_1
  have ho : pOf name x b = (!b || decide (x = name)) := rfl
  rw [ho]
  cases b
  · simp only [sZ, initT, optI, splice, reduceIte, reduceCtorEq, Nat.reduceEqDiff, Nat.reduceAdd, Nat.reduceSub, Nat.reduceMul, Nat.reduceLeDiff, Nat.reduceLT, Int.reduceLT, Int.reduceLE, Int.reduceToNat, Int.reduceEq, Int.cast_ofNat_Int]
    refine OutQ.eq (by repeat (first | exact SExt.refl _ | (refine SExt.old ?_ (by first | (simp only [*]; done) | (simp only [upd_none]; assumption) | (simp only [upd_none, *, not_false_eq_true, and_self]; done)) _))) rfl
  · simp only [sZ, initT, optI, splice, reduceIte, reduceCtorEq, Nat.reduceEqDiff, Nat.reduceAdd, Nat.reduceSub, Nat.reduceMul, Nat.reduceLeDiff, Nat.reduceLT, Int.reduceLT, Int.reduceLE, Int.reduceToNat, Int.reduceEq, Int.cast_ofNat_Int, hn]
    refine OutQ.eq (by repeat (first | exact SExt.refl _ | (refine SExt.old ?_ (by first | (simp only [*]; done) | (simp only [upd_none]; assumption) | (simp only [upd_none, *, not_false_eq_true, and_self]; done)) _))) rfl
theorem spec_Com_1 (x : ByteArray) (b : Bool) {s : Nat → Option Blk} {k : Nat → Tk} : Spec prg 45 [.str x, .bool b] s k (.bool (pCom x b)) s k := by
  refine spec_tr prg_mixed tr_view_Common_1 (Nat.le_of_ble_eq_true rfl) rfl ?_
  unfold pc_view_Common_1 rs_view_Common_1
  simp only [sZ, initT, optI, splice, reduceIte, reduceCtorEq, Nat.reduceEqDiff, Nat.reduceAdd, Nat.reduceSub, Nat.reduceMul, Nat.reduceLeDiff, Nat.reduceLT, Int.reduceLT, Int.reduceLE, Int.reduceToNat, Int.reduceEq, Int.cast_ofNat_Int]
  refine OutQ.eq (by repeat (first | exact SExt.refl _ | (refine SExt.old ?_ (by first | (simp only [*]; done) | (simp only [upd_none]; assumption) | (simp only [upd_none, *, not_false_eq_true, and_self]; done)) _))) rfl
theorem spec_Dis_1 (x : ByteArray) (b : Bool) {s : Nat → Option Blk} {k : Nat → Tk} : Spec prg 46 [.str x, .bool b] s k (.bool (pDis x b)) s k := by
  refine spec_tr prg_mixed tr_view_Disputed_1 (Nat.le_of_ble_eq_true rfl) rfl ?_
  unfold pc_view_Disputed_1 rs_view_Disputed_1
  simp only [sZ, initT, optI, splice, reduceIte, reduceCtorEq, Nat.reduceEqDiff, Nat.reduceAdd, Nat.reduceSub, Nat.reduceMul, Nat.reduceLeDiff, Nat.reduceLT, Int.reduceLT, Int.reduceLE, Int.reduceToNat, Int.reduceEq, Int.cast_ofNat_Int]
  refine OutQ.eq (by repeat (first | exact SExt.refl _ | (refine SExt.old ?_ (by first | (simp only [*]; done) | (simp only [upd_none]; assumption) | (simp only [upd_none, *, not_false_eq_true, and_self]; done)) _))) rfl
theorem spec_Of (m : List Obj) (hm : MapFit m) (hl : m.length < 1000000) (name : ByteArray) {s : Nat → Option Blk} {k : Nat → Tk} : Spec prg 16 [.agg (encMap m), .str name] s k (.agg (encMap (ofF m name))) s k := by
  refine spec_tr prg_mixed tr_view_Of (Nat.le_of_ble_eq_true rfl) rfl ?_
  unfold pc_view_Of rs_view_Of
  have hob := fun nb s k (h : s nb = some (.cells [.str name])) => @spec_objects m hm hl 47 [.ptr nb 0] (pOf name) s k (fun o ho s' k' hs' => spec_Of_1 name _ _ (by rw [hs' nb (by rw [h]; simp), h]))
  have hE : encMap (ofF m name) = [.sl 6 ((wantF m (pOf name)).map encObj) .no] := rfl
  simp only [encMap] at hob
  rw [hE]
  simp only [sZ, initT, optI, splice, reduceIte, reduceCtorEq, Nat.reduceEqDiff, Nat.reduceAdd, Nat.reduceSub, Nat.reduceMul, Nat.reduceLeDiff, Nat.reduceLT, Int.reduceLT, Int.reduceLE, Int.reduceToNat, Int.reduceEq, Int.cast_ofNat_Int, encMap]
  (with_reducible refine newS_in ?_); intro b2 f2; simp only [upd_none] at f2
  simp only [sZ, initT, optI, splice, reduceIte, reduceCtorEq, Nat.reduceEqDiff, Nat.reduceAdd, Nat.reduceSub, Nat.reduceMul, Nat.reduceLeDiff, Nat.reduceLT, Int.reduceLT, Int.reduceLE, Int.reduceToNat, Int.reduceEq, Int.cast_ofNat_Int, f2]
  (with_reducible refine newS_in ?_); intro b3 f3; simp only [upd_none] at f3
  simp only [sZ, initT, optI, splice, reduceIte, reduceCtorEq, Nat.reduceEqDiff, Nat.reduceAdd, Nat.reduceSub, Nat.reduceMul, Nat.reduceLeDiff, Nat.reduceLT, Int.reduceLT, Int.reduceLE, Int.reduceToNat, Int.reduceEq, Int.cast_ofNat_Int, f2, f3]
  (with_reducible refine newS_in ?_); intro b4 f4; simp only [upd_none] at f4
  simp only [sZ, initT, optI, splice, reduceIte, reduceCtorEq, Nat.reduceEqDiff, Nat.reduceAdd, Nat.reduceSub, Nat.reduceMul, Nat.reduceLeDiff, Nat.reduceLT, Int.reduceLT, Int.reduceLE, Int.reduceToNat, Int.reduceEq, Int.cast_ofNat_Int, f2, f3, f4]
  refine callS_quiet (hob b3 _ _ (by simp only [upd_apply, f3, f4, reduceIte])) ?_
  simp only [sZ, initT, optI, splice, reduceIte, reduceCtorEq, Nat.reduceEqDiff, Nat.reduceAdd, Nat.reduceSub, Nat.reduceMul, Nat.reduceLeDiff, Nat.reduceLT, Int.reduceLT, Int.reduceLE, Int.reduceToNat, Int.reduceEq, Int.cast_ofNat_Int, f2, f3, f4]
  refine OutQ.eq (by repeat (first | exact SExt.refl _ | (refine SExt.old ?_ (by first | (simp only [*]; done) | (simp only [upd_none]; assumption) | (simp only [upd_none, *, not_false_eq_true, and_self]; done)) _))) rfl
theorem spec_Common (m : List Obj) (hm : MapFit m) (hl : m.length < 1000000) {s : Nat → Option Blk} {k : Nat → Tk} : Spec prg 14 [.agg (encMap m)] s k (.agg (encMap (comF m))) s k := by
  refine spec_tr prg_mixed tr_view_Common (Nat.le_of_ble_eq_true rfl) rfl ?_
  unfold pc_view_Common rs_view_Common
  have hob := fun s k => @spec_objects m hm hl 45 [] pCom s k (fun o ho s' k' hs' => spec_Com_1 _ _)
  have hE : encMap (comF m) = [.sl 6 ((wantF m pCom).map encObj) .no] := rfl
  simp only [encMap] at hob
  rw [hE]
  simp only [sZ, initT, optI, splice, reduceIte, reduceCtorEq, Nat.reduceEqDiff, Nat.reduceAdd, Nat.reduceSub, Nat.reduceMul, Nat.reduceLeDiff, Nat.reduceLT, Int.reduceLT, Int.reduceLE, Int.reduceToNat, Int.reduceEq, Int.cast_ofNat_Int, encMap]
  (with_reducible refine newS_in ?_); intro b2 f2; simp only [upd_none] at f2
  simp only [sZ, initT, optI, splice, reduceIte, reduceCtorEq, Nat.reduceEqDiff, Nat.reduceAdd, Nat.reduceSub, Nat.reduceMul, Nat.reduceLeDiff, Nat.reduceLT, Int.reduceLT, Int.reduceLE, Int.reduceToNat, Int.reduceEq, Int.cast_ofNat_Int, f2]
  (with_reducible refine newS_in ?_); intro b3 f3; simp only [upd_none] at f3
  simp only [sZ, initT, optI, splice, reduceIte, reduceCtorEq, Nat.reduceEqDiff, Nat.reduceAdd, Nat.reduceSub, Nat.reduceMul, Nat.reduceLeDiff, Nat.reduceLT, Int.reduceLT, Int.reduceLE, Int.reduceToNat, Int.reduceEq, Int.cast_ofNat_Int, f2, f3]
  refine callS_quiet (hob _ _) ?_
  simp only [sZ, initT, optI, splice, reduceIte, reduceCtorEq, Nat.reduceEqDiff, Nat.reduceAdd, Nat.reduceSub, Nat.reduceMul, Nat.reduceLeDiff, Nat.reduceLT, Int.reduceLT, Int.reduceLE, Int.reduceToNat, Int.reduceEq, Int.cast_ofNat_Int, f2, f3]
  refine OutQ.eq (by repeat (first | exact SExt.refl _ | (refine SExt.old ?_ (by first | (simp only [*]; done) | (simp only [upd_none]; assumption) | (simp only [upd_none, *, not_false_eq_true, and_self]; done)) _))) rfl
theorem wantF_le (m : List Obj) (p : ByteArray → Bool → Bool) : (wantF m p).length ≤ m.length := by
  unfold wantF
  split
  · exact List.length_filter_le _ _
  · simp
theorem spec_Disputed (m : List Obj) (hm : MapFit m) (hl : m.length < 1000000) {s : Nat → Option Blk} {k : Nat → Tk} : Spec prg 15 [.agg (encMap m)] s k (.sl 1 ((disF m).map encStr) .no) s k := by
  refine spec_tr prg_mixed tr_view_Disputed (Nat.le_of_ble_eq_true rfl) rfl ?_
  unfold pc_view_Disputed rs_view_Disputed
  have hob := fun s k => @spec_objects m hm hl 46 [] pDis s k (fun o ho s' k' hs' => spec_Dis_1 _ _)
  have hle := wantF_le m pDis
  have hE : disF m = (wantF m pDis).map Obj.id := rfl
  rw [hE]
  generalize wantF m pDis = d at *
  simp only [encMap] at hob
  simp only [sZ, initT, optI, splice, reduceIte, reduceCtorEq, Nat.reduceEqDiff, Nat.reduceAdd, Nat.reduceSub, Nat.reduceMul, Nat.reduceLeDiff, Nat.reduceLT, Int.reduceLT, Int.reduceLE, Int.reduceToNat, Int.reduceEq, Int.cast_ofNat_Int, encMap]
  (with_reducible refine newS_in ?_); intro b1 f1; simp only [upd_none] at f1
  simp only [sZ, initT, optI, splice, reduceIte, reduceCtorEq, Nat.reduceEqDiff, Nat.reduceAdd, Nat.reduceSub, Nat.reduceMul, Nat.reduceLeDiff, Nat.reduceLT, Int.reduceLT, Int.reduceLE, Int.reduceToNat, Int.reduceEq, Int.cast_ofNat_Int, f1]
  refine callS_quiet (hob _ _) ?_
  simp only [sZ, initT, optI, splice, reduceIte, reduceCtorEq, Nat.reduceEqDiff, Nat.reduceAdd, Nat.reduceSub, Nat.reduceMul, Nat.reduceLeDiff, Nat.reduceLT, Int.reduceLT, Int.reduceLE, Int.reduceToNat, Int.reduceEq, Int.cast_ofNat_Int, f1]
  refine loop_L (α := Tok × (Nat → Tk)) d.length (fun j p => [(3, .sl 1 (((d.take j).map Obj.id).map encStr) p.1), (7, .sl 6 (d.map encObj) .no), (8, .int .i64 d.length), (9, .int .i64 j)]) (fun _ _ => s) (fun _ p => p.2)
    (fun _ p => KExt k p.2 ∧ TokA k p.2 9 p.1) (.nil, k) (by repeat (first | exact SExt.refl _ | (refine SExt.old ?_ (by first | (simp only [*]; done) | (simp only [upd_none]; assumption) | (simp only [upd_none, *, not_false_eq_true, and_self]; done)) _))) rfl (by (try simp only [TabLe_cons, TabLe_nil, tab_cons, tab_nil, upd_apply, Nat.reduceEqDiff, reduceIte, and_true]); repeat' (first | exact trivial | exact A.le_refl _ | exact le_strip_no _ _ _ | exact A.le_no _ _ _ | exact A.le_empty _ _ _ | refine And.intro ?_ ?_)) ⟨KExt.refl _, .inl rfl⟩ ?_
  rintro j ⟨tok, k'⟩ hj ⟨hk, htok⟩
  dsimp only at hk htok ⊢
  simp only [sZ, initT, optI, splice, reduceIte, reduceCtorEq, Nat.reduceEqDiff, Nat.reduceAdd, Nat.reduceSub, Nat.reduceMul, Nat.reduceLeDiff, Nat.reduceLT, Int.reduceLT, Int.reduceLE, Int.reduceToNat, Int.reduceEq, Int.cast_ofNat_Int]
  refine brC_in (fun hlt => ?_) (fun hge => ?_)
  · have hj' : j < d.length := by have := of_decide_eq_true hlt; omega
    clear hlt
    have hw := wrap_succ hj' (by omega)
    have hg : (d.map encObj)[j]? = some (encObj d[j]) := objE.get hj'
    simp only [sZ, initT, optI, splice, reduceIte, reduceCtorEq, Nat.reduceEqDiff, Nat.reduceAdd, Nat.reduceSub, Nat.reduceMul, Nat.reduceLeDiff, Nat.reduceLT, Int.reduceLT, Int.reduceLE, Int.reduceToNat, Int.reduceEq, Int.cast_ofNat_Int, hg, len_encObj, wh_encObj, st_encObj]
    (with_reducible refine newS_in ?_); intro b5 f5; simp only [upd_none] at f5
    simp only [sZ, initT, optI, splice, reduceIte, reduceCtorEq, Nat.reduceEqDiff, Nat.reduceAdd, Nat.reduceSub, Nat.reduceMul, Nat.reduceLeDiff, Nat.reduceLT, Int.reduceLT, Int.reduceLE, Int.reduceToNat, Int.reduceEq, Int.cast_ofNat_Int, f5, len_encObj, wh_encObj, st_encObj, id_obj]
    refine app_in hk htok (by simp; omega) fun tok2 k2 hk2 htok2 => ?_
    simp only [sZ, initT, optI, splice, reduceIte, reduceCtorEq, Nat.reduceEqDiff, Nat.reduceAdd, Nat.reduceSub, Nat.reduceMul, Nat.reduceLeDiff, Nat.reduceLT, Int.reduceLT, Int.reduceLE, Int.reduceToNat, Int.reduceEq, Int.cast_ofNat_Int, hw]
    refine next_L hj' (tok2, k2) (by repeat (first | exact SExt.refl _ | (refine SExt.old ?_ (by first | (simp only [*]; done) | (simp only [upd_none]; assumption) | (simp only [upd_none, *, not_false_eq_true, and_self]; done)) _))) rfl ?_ ⟨hk2, htok2⟩
    have e1 : ((d.take (j + 1)).map Obj.id).map encStr = ((d.take j).map Obj.id).map encStr ++ [[.str d[j].id]] := by rw [List.take_succ_eq_append_getElem hj', List.map_append, List.map_append]; rfl
    rw [e1]
    exact (by (try simp only [TabLe_cons, TabLe_nil, tab_cons, tab_nil, upd_apply, Nat.reduceEqDiff, reduceIte, and_true]); repeat' (first | exact trivial | exact A.le_refl _ | exact le_strip_no _ _ _ | exact A.le_no _ _ _ | exact A.le_empty _ _ _ | refine And.intro ?_ ?_))
  · have hje : j = d.length := by have := of_decide_eq_false hge; omega
    subst hje
    rw [List.take_length]
    simp only [sZ, initT, optI, splice, reduceIte, reduceCtorEq, Nat.reduceEqDiff, Nat.reduceAdd, Nat.reduceSub, Nat.reduceMul, Nat.reduceLeDiff, Nat.reduceLT, Int.reduceLT, Int.reduceLE, Int.reduceToNat, Int.reduceEq, Int.cast_ofNat_Int]
    exact OutQ.lek (SExt.refl _) hk (le_strip_no _ _ _)
theorem spec_In (l : List ByteArray) (x : ByteArray) (hl : l.length < 4611686018427387904) {s : Nat → Option Blk} {k : Nat → Tk} : Spec prg 49 [.sl 1 (l.map encStr) .no, .str x] s k (.bool (memB x l)) s k := by
  refine spec_tr prg_mixed tr_pref12_In (Nat.le_of_ble_eq_true rfl) rfl ?_
  unfold pc_pref12_In rs_pref12_In
  simp only [sZ, initT, optI, splice, reduceIte, reduceCtorEq, Nat.reduceEqDiff, Nat.reduceAdd, Nat.reduceSub, Nat.reduceMul, Nat.reduceLeDiff, Nat.reduceLT, Int.reduceLT, Int.reduceLE, Int.reduceToNat, Int.reduceEq, Int.cast_ofNat_Int]
  refine loop_L (α := Unit) l.length (fun j _ => [(0, .sl 1 (l.map encStr) .no), (1, .str x), (5, .int .i64 j)]) (fun _ _ => s) (fun _ _ => k) (fun j _ => ∀ q (h : q < l.length), q < j → l[q] ≠ x) () (SExt.refl _) rfl (by (try simp only [TabLe_cons, TabLe_nil, tab_cons, tab_nil, upd_apply, Nat.reduceEqDiff, reduceIte, and_true]); repeat' (first | exact trivial | exact A.le_refl _ | exact le_strip_no _ _ _ | exact A.le_no _ _ _ | exact A.le_empty _ _ _ | refine And.intro ?_ ?_)) (fun q _ h => by omega) ?_
  rintro j ⟨⟩ hj hall
  try dsimp only
  simp only [sZ, initT, optI, splice, reduceIte, reduceCtorEq, Nat.reduceEqDiff, Nat.reduceAdd, Nat.reduceSub, Nat.reduceMul, Nat.reduceLeDiff, Nat.reduceLT, Int.reduceLT, Int.reduceLE, Int.reduceToNat, Int.reduceEq, Int.cast_ofNat_Int]
  refine brC_in (fun hlt => ?_) (fun hge => ?_)
  · have hj' : j < l.length := by have := of_decide_eq_true hlt; omega
    clear hlt
    have hw := wrap_succ hj' (by omega)
    have hg : (l.map encStr)[j]? = some (encStr l[j]) := strE.get hj'
    simp only [sZ, initT, optI, splice, reduceIte, reduceCtorEq, Nat.reduceEqDiff, Nat.reduceAdd, Nat.reduceSub, Nat.reduceMul, Nat.reduceLeDiff, Nat.reduceLT, Int.reduceLT, Int.reduceLE, Int.reduceToNat, Int.reduceEq, Int.cast_ofNat_Int, hg, get_str]
    refine brC_in (fun h1 => ?_) (fun h1 => ?_)
    · have : memB x l = true := by
        unfold memB
        rw [List.any_eq_true]
        exact ⟨l[j], List.getElem_mem hj', by simpa [eq_comm] using h1⟩
      rw [this]
      simp only [sZ, initT, optI, splice, reduceIte, reduceCtorEq, Nat.reduceEqDiff, Nat.reduceAdd, Nat.reduceSub, Nat.reduceMul, Nat.reduceLeDiff, Nat.reduceLT, Int.reduceLT, Int.reduceLE, Int.reduceToNat, Int.reduceEq, Int.cast_ofNat_Int]
      refine OutQ.eq (by repeat (first | exact SExt.refl _ | (refine SExt.old ?_ (by first | (simp only [*]; done) | (simp only [upd_none]; assumption) | (simp only [upd_none, *, not_false_eq_true, and_self]; done)) _))) rfl
    · simp only [sZ, initT, optI, splice, reduceIte, reduceCtorEq, Nat.reduceEqDiff, Nat.reduceAdd, Nat.reduceSub, Nat.reduceMul, Nat.reduceLeDiff, Nat.reduceLT, Int.reduceLT, Int.reduceLE, Int.reduceToNat, Int.reduceEq, Int.cast_ofNat_Int, hw]
      refine next_L hj' () (SExt.refl _) rfl (by (try simp only [TabLe_cons, TabLe_nil, tab_cons, tab_nil, upd_apply, Nat.reduceEqDiff, reduceIte, and_true]); repeat' (first | exact trivial | exact A.le_refl _ | exact le_strip_no _ _ _ | exact A.le_no _ _ _ | exact A.le_empty _ _ _ | refine And.intro ?_ ?_)) fun q hq h3 => ?_
      by_cases hqj : q = j
      · subst hqj; simpa using h1
      · exact hall q hq (by omega)
  · have hje : j = l.length := by have := of_decide_eq_false hge; omega
    subst hje
    have : memB x l = false := by
      unfold memB
      rw [List.any_eq_false]
      intro y hy
      obtain ⟨q, hq, rfl⟩ := List.getElem_of_mem hy
      have := hall q hq hq
      simpa [eq_comm] using this
    rw [this]
    simp only [sZ, initT, optI, splice, reduceIte, reduceCtorEq, Nat.reduceEqDiff, Nat.reduceAdd, Nat.reduceSub, Nat.reduceMul, Nat.reduceLeDiff, Nat.reduceLT, Int.reduceLT, Int.reduceLE, Int.reduceToNat, Int.reduceEq, Int.cast_ofNat_Int]
    refine OutQ.eq (by repeat (first | exact SExt.refl _ | (refine SExt.old ?_ (by first | (simp only [*]; done) | (simp only [upd_none]; assumption) | (simp only [upd_none, *, not_false_eq_true, and_self]; done)) _))) rfl
def woF (m : List Obj) (l : List ByteArray) : List Obj := m.filter fun o => !memB o.id l
theorem spec_without (m : List Obj) (l : List ByteArray) (hm : m.length < 1000000) (hl : l.length < 4611686018427387904) {s : Nat → Option Blk} {k : Nat → Tk} : Spec prg 18 [.agg (encMap m), .sl 1 (l.map encStr) .no] s k (.agg (encMap (woF m l))) s k := by
  refine spec_tr prg_mixed tr_plaw19_without (Nat.le_of_ble_eq_true rfl) rfl ?_
  unfold pc_plaw19_without rs_plaw19_without
  have hE : encMap (woF m l) = [.sl 6 ((woF m l).map encObj) .no] := rfl
  rw [hE]
  simp only [sZ, initT, optI, splice, reduceIte, reduceCtorEq, Nat.reduceEqDiff, Nat.reduceAdd, Nat.reduceSub, Nat.reduceMul, Nat.reduceLeDiff, Nat.reduceLT, Int.reduceLT, Int.reduceLE, Int.reduceToNat, Int.reduceEq, Int.cast_ofNat_Int, encMap]
  (with_reducible refine newS_in ?_); intro b2 f2; simp only [upd_none] at f2
  simp only [sZ, initT, optI, splice, reduceIte, reduceCtorEq, Nat.reduceEqDiff, Nat.reduceAdd, Nat.reduceSub, Nat.reduceMul, Nat.reduceLeDiff, Nat.reduceLT, Int.reduceLT, Int.reduceLE, Int.reduceToNat, Int.reduceEq, Int.cast_ofNat_Int, f2]
  (with_reducible refine newS_in ?_); intro b4 f4; simp only [upd_none] at f4
  simp only [sZ, initT, optI, splice, reduceIte, reduceCtorEq, Nat.reduceEqDiff, Nat.reduceAdd, Nat.reduceSub, Nat.reduceMul, Nat.reduceLeDiff, Nat.reduceLT, Int.reduceLT, Int.reduceLE, Int.reduceToNat, Int.reduceEq, Int.cast_ofNat_Int, f2, f4]
  (with_reducible refine newS_in ?_); intro b5 f5; simp only [upd_none] at f5
  simp only [sZ, initT, optI, splice, reduceIte, reduceCtorEq, Nat.reduceEqDiff, Nat.reduceAdd, Nat.reduceSub, Nat.reduceMul, Nat.reduceLeDiff, Nat.reduceLT, Int.reduceLT, Int.reduceLE, Int.reduceToNat, Int.reduceEq, Int.cast_ofNat_Int, f2, f4, f5]
  refine loop_L (α := Tok × (Nat → Tk)) m.length (fun j p => [(1, .sl 1 (l.map encStr) .no), (2, .ptr b2 0), (4, .ptr b4 0), (5, .ptr b5 0), (6, .int .i64 j)])
    (fun j p => upd (upd (upd s b2 (some (.cells [.sl 6 (m.map encObj) .no]))) b4 (some (.cells [.sl 6 [] .nil]))) b5 (some (.cells [.sl 6 (((m.take j).filter fun o => !memB o.id l).map encObj) p.1]))) (fun _ p => p.2)
    (fun _ p => KExt k p.2 ∧ TokA k p.2 38 p.1) (.nil, k) (SExt.refl _) rfl (by (try simp only [TabLe_cons, TabLe_nil, tab_cons, tab_nil, upd_apply, Nat.reduceEqDiff, reduceIte, and_true]); repeat' (first | exact trivial | exact A.le_refl _ | exact le_strip_no _ _ _ | exact A.le_no _ _ _ | exact A.le_empty _ _ _ | refine And.intro ?_ ?_)) ⟨KExt.refl _, .inl rfl⟩ ?_
  rintro j ⟨tok, k'⟩ hj ⟨hk, htok⟩
  dsimp only at hk htok ⊢
  simp only [sZ, initT, optI, splice, reduceIte, reduceCtorEq, Nat.reduceEqDiff, Nat.reduceAdd, Nat.reduceSub, Nat.reduceMul, Nat.reduceLeDiff, Nat.reduceLT, Int.reduceLT, Int.reduceLE, Int.reduceToNat, Int.reduceEq, Int.cast_ofNat_Int, f2, f4, f5]
  refine brC_in (fun hlt => ?_) (fun hge => ?_)
  · have hj' : j < m.length := by have := of_decide_eq_true hlt; omega
    clear hlt
    have hw := wrap_succ hj' (by omega)
    have hg : (m.map encObj)[j]? = some (encObj m[j]) := objE.get hj'
    have hft := filter_take (fun o : Obj => !memB o.id l) m hj'
    have hfl : ((m.take j).filter fun o => !memB o.id l).length ≤ j := Nat.le_trans (List.length_filter_le _ _) (by simp; omega)
    simp only [sZ, initT, optI, splice, reduceIte, reduceCtorEq, Nat.reduceEqDiff, Nat.reduceAdd, Nat.reduceSub, Nat.reduceMul, Nat.reduceLeDiff, Nat.reduceLT, Int.reduceLT, Int.reduceLE, Int.reduceToNat, Int.reduceEq, Int.cast_ofNat_Int, f2, f4, f5, hg, id_obj]
    refine callS_quiet (spec_In l m[j].id hl) ?_
    cases hqj : memB m[j].id l
    · rw [hqj] at hft
      simp only [Bool.not_false, if_true] at hft
      simp only [sZ, initT, optI, splice, reduceIte, reduceCtorEq, Nat.reduceEqDiff, Nat.reduceAdd, Nat.reduceSub, Nat.reduceMul, Nat.reduceLeDiff, Nat.reduceLT, Int.reduceLT, Int.reduceLE, Int.reduceToNat, Int.reduceEq, Int.cast_ofNat_Int, f2, f4, f5, hg, len_encObj, wh_encObj, st_encObj, Bool.not_false]
      refine app_in hk htok (by simp; omega) fun tok2 k2 hk2 htok2 => ?_
      simp only [sZ, initT, optI, splice, reduceIte, reduceCtorEq, Nat.reduceEqDiff, Nat.reduceAdd, Nat.reduceSub, Nat.reduceMul, Nat.reduceLeDiff, Nat.reduceLT, Int.reduceLT, Int.reduceLE, Int.reduceToNat, Int.reduceEq, Int.cast_ofNat_Int, f2, f4, f5, hw]
      have e1 : ((m.take (j + 1)).filter fun o => !memB o.id l).map encObj = ((m.take j).filter fun o => !memB o.id l).map encObj ++ [encObj m[j]] := by rw [hft, List.map_append]; rfl
      refine next_L hj' (tok2, k2) ?_ rfl (by (try simp only [TabLe_cons, TabLe_nil, tab_cons, tab_nil, upd_apply, Nat.reduceEqDiff, reduceIte, and_true]); repeat' (first | exact trivial | exact A.le_refl _ | exact le_strip_no _ _ _ | exact A.le_no _ _ _ | exact A.le_empty _ _ _ | refine And.intro ?_ ?_)) ⟨hk2, htok2⟩
      rw [e1]
      repeat (first | exact SExt.refl _ | (refine SExt.old ?_ (by first | (simp only [*]; done) | (simp only [upd_none]; assumption) | (simp only [upd_none, *, not_false_eq_true, and_self]; done)) _))
    · rw [hqj] at hft
      simp only [Bool.not_true, Bool.false_eq_true, if_false, List.append_nil] at hft
      simp only [sZ, initT, optI, splice, reduceIte, reduceCtorEq, Nat.reduceEqDiff, Nat.reduceAdd, Nat.reduceSub, Nat.reduceMul, Nat.reduceLeDiff, Nat.reduceLT, Int.reduceLT, Int.reduceLE, Int.reduceToNat, Int.reduceEq, Int.cast_ofNat_Int, f2, f4, f5, hw, Bool.not_true]
      refine next_L hj' (tok, k') ?_ rfl (by (try simp only [TabLe_cons, TabLe_nil, tab_cons, tab_nil, upd_apply, Nat.reduceEqDiff, reduceIte, and_true]); repeat' (first | exact trivial | exact A.le_refl _ | exact le_strip_no _ _ _ | exact A.le_no _ _ _ | exact A.le_empty _ _ _ | refine And.intro ?_ ?_)) ⟨hk, htok⟩
      rw [hft]
      repeat (first | exact SExt.refl _ | (refine SExt.old ?_ (by first | (simp only [*]; done) | (simp only [upd_none]; assumption) | (simp only [upd_none, *, not_false_eq_true, and_self]; done)) _))
  · have hje : j = m.length := by have := of_decide_eq_false hge; omega
    subst hje
    rw [List.take_length]
    simp only [sZ, initT, optI, splice, reduceIte, reduceCtorEq, Nat.reduceEqDiff, Nat.reduceAdd, Nat.reduceSub, Nat.reduceMul, Nat.reduceLeDiff, Nat.reduceLT, Int.reduceLT, Int.reduceLE, Int.reduceToNat, Int.reduceEq, Int.cast_ofNat_Int, f2, f4, f5, strip_strip]
    exact OutQ.lek (by repeat (first | exact SExt.refl _ | (refine SExt.old ?_ (by first | (simp only [*]; done) | (simp only [upd_none]; assumption) | (simp only [upd_none, *, not_false_eq_true, and_self]; done)) _))) hk (A.le_agg (.cons (le_strip_no _ _ _) .nil))
end Go.Pv
