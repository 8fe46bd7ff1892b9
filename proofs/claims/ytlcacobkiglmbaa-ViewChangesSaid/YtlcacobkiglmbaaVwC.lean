/- Views: their names. -/
import Derived.Test.YtlcacobkiglmbaaVwB
import Derived.Test.YtlcacobkiglmbaaGrwB
set_option linter.unusedVariables false
set_option linter.unusedSimpArgs false
set_option maxRecDepth 4000
set_option maxHeartbeats 2000000
namespace Go.Pv
open Go

def setN (x : ByteArray) (b : Bool) (M : List (ByteArray × Bool)) : List (ByteArray × Bool) := if b then setM x true M else M
def seenN : List Obj → List (ByteArray × Bool) → List (ByteArray × Bool)
  | [], M => M
  | o :: l, M => seenN l (setN (ownF o).1 (ownF o).2 M)
theorem seenN_take : ∀ (l : List Obj) (M : List (ByteArray × Bool)) {j : Nat} (h : j < l.length), seenN (l.take (j + 1)) M = setN (ownF l[j]).1 (ownF l[j]).2 (seenN (l.take j) M)
  | o :: l, M, 0, _ => by simp [seenN]
  | o :: l, M, j + 1, h => by
    rw [List.take_succ_cons, List.take_succ_cons]
    simp only [seenN, List.getElem_cons_succ]
    exact seenN_take l _ (by simpa using h)
theorem setM_le (x : ByteArray) (b : Bool) : ∀ M : List (ByteArray × Bool), (setM x b M).length ≤ M.length + 1
  | [] => by simp [setM]
  | p :: M => by
    simp only [setM]
    split
    · simp
    · simpa using setM_le x b M
theorem seenN_le : ∀ (l : List Obj) (M : List (ByteArray × Bool)), (seenN l M).length ≤ M.length + l.length
  | [], M => by simp [seenN]
  | o :: l, M => by
    simp only [seenN, List.length_cons]
    have h1 := seenN_le l (setN (ownF o).1 (ownF o).2 M)
    have h2 : (setN (ownF o).1 (ownF o).2 M).length ≤ M.length + 1 := by
      unfold setN
      split
      · exact setM_le _ _ _
      · omega
    omega
theorem sext_mid {s : Hp} {mi b : Nat} {x y : Blk} {z : Option Blk} (hb : upd s mi (some x) b = none) : SExt (upd s mi (some y)) (upd (upd (upd s mi (some x)) b z) mi (some y)) := by
  intro i hi
  rw [upd_none] at hb
  simp only [upd_apply] at hi ⊢
  by_cases e : i = mi
  · rw [if_pos e, if_pos e]
  · rw [if_neg e] at hi
    have e2 : ¬ i = b := by
      rintro rfl
      exact hi hb.2
    simp only [if_neg e, if_neg e2]
theorem spec_Names_1 (x : ByteArray) (b : Bool) (M : List (ByteArray × Bool)) {mb mi : Nat} {s : Hp} {k : Nat → Tk} (hm : s mb = some (.cells [.map mi])) (hi : s mi = some (.map (encM encB M))) :
    SpecR prg 78 [.str x, .bool b, .ptr mb 0] s k fun r s' k' => r = .bool false ∧ s' = upd s mi (some (.map (encM encB (setN x b M)))) ∧ k' = k := by
  refine specR_tr prg_mixed tr_view_Names_1 (Nat.le_of_ble_eq_true rfl) rfl ?_
  unfold pc_view_Names_1 rs_view_Names_1
  cases b
  · have e : setN x false M = M := rfl
    rw [e, updS hi]
    simp only [sZ, initT, optI, splice, reduceIte, reduceCtorEq, Nat.reduceEqDiff, Nat.reduceAdd, Nat.reduceSub, Nat.reduceMul, Nat.reduceLeDiff, Nat.reduceLT, Int.reduceLT, Int.reduceLE, Int.reduceToNat, Int.reduceEq, Int.cast_ofNat_Int]
    exact OutR.eq ⟨rfl, rfl, rfl⟩
  · have e : setN x true M = setM x true M := rfl
    rw [e]
    simp only [sZ, initT, optI, splice, reduceIte, reduceCtorEq, Nat.reduceEqDiff, Nat.reduceAdd, Nat.reduceSub, Nat.reduceMul, Nat.reduceLeDiff, Nat.reduceLT, Int.reduceLT, Int.reduceLE, Int.reduceToNat, Int.reduceEq, Int.cast_ofNat_Int, hm, hi, mset_B]
    exact OutR.eq ⟨rfl, rfl, rfl⟩
theorem spec_objects_1N (o : Obj) (hf : ObjFit o) (M : List (ByteArray × Bool)) {wb mb mi : Nat} {s : Hp} {k : Nat → Tk} (hw : s wb = some (.cells [.fn 78 [.ptr mb 0]])) (hm : s mb = some (.cells [.map mi])) (hi : s mi = some (.map (encM encB M))) :
    SpecR prg 86 [.agg (encObj o), .ptr wb 0] s k fun r s' k' => r = .bool false ∧ s' = upd s mi (some (.map (encM encB (setN (ownF o).1 (ownF o).2 M)))) ∧ k' = k := by
  refine specR_tr prg_mixed tr_view_objects_1 (Nat.le_of_ble_eq_true rfl) rfl ?_
  unfold pc_view_objects_1 rs_view_objects_1
  have hown := fun s k => @spec_own o hf s k
  generalize ownF o = g at *
  obtain ⟨v, b⟩ := g
  dsimp only at *
  simp only [sZ, initT, optI, splice, reduceIte, reduceCtorEq, Nat.reduceEqDiff, Nat.reduceAdd, Nat.reduceSub, Nat.reduceMul, Nat.reduceLeDiff, Nat.reduceLT, Int.reduceLT, Int.reduceLE, Int.reduceToNat, Int.reduceEq, Int.cast_ofNat_Int, len_encObj, wh_encObj, st_encObj]
  (with_reducible refine newS_in ?_); intro b2 f2; simp only [upd_none] at f2
  have n1 : ¬ wb = b2 := fun e => by subst e; rw [hw] at f2; cases f2
  have n2 : ¬ mb = b2 := fun e => by subst e; rw [hm] at f2; cases f2
  have n3 : ¬ mi = b2 := fun e => by subst e; rw [hi] at f2; cases f2
  simp only [sZ, initT, optI, splice, reduceIte, reduceCtorEq, Nat.reduceEqDiff, Nat.reduceAdd, Nat.reduceSub, Nat.reduceMul, Nat.reduceLeDiff, Nat.reduceLT, Int.reduceLT, Int.reduceLE, Int.reduceToNat, Int.reduceEq, Int.cast_ofNat_Int, f2, n1, hw, len_encObj, wh_encObj, st_encObj]
  refine callQS_quiet (hown _ _) ?_
  simp only [sZ, initT, optI, splice, reduceIte, reduceCtorEq, Nat.reduceEqDiff, Nat.reduceAdd, Nat.reduceSub, Nat.reduceMul, Nat.reduceLeDiff, Nat.reduceLT, Int.reduceLT, Int.reduceLE, Int.reduceToNat, Int.reduceEq, Int.cast_ofNat_Int, f2, n1, hw]
  refine callS_R (spec_Names_1 v b M (mb := mb) (mi := mi) (by simp only [upd_apply, n2, reduceIte]; exact hm) (by simp only [upd_apply, n3, reduceIte]; exact hi)) ?_
  rintro r s' k' ⟨rfl, rfl, rfl⟩
  simp only [sZ, initT, optI, splice, reduceIte, reduceCtorEq, Nat.reduceEqDiff, Nat.reduceAdd, Nat.reduceSub, Nat.reduceMul, Nat.reduceLeDiff, Nat.reduceLT, Int.reduceLT, Int.reduceLE, Int.reduceToNat, Int.reduceEq, Int.cast_ofNat_Int, f2]
  refine OutR.of2 ⟨rfl, rfl, rfl⟩ (less2 ?_)
  have := sext_mid (s := s) (mi := mi) (b := b2) (x := .map (encM encB M)) (y := .map (encM encB (setN v b M))) (z := some (.cells (encObj o))) (by rw [updS hi]; exact f2)
  rw [updS hi] at this
  exact this
theorem spec_filterN (l : List Obj) (hf : ∀ o ∈ l, ObjFit o) (hl : l.length < 1000000) (M : List (ByteArray × Bool)) {wb mb mi : Nat} {s : Hp} {k : Nat → Tk} (hw : s wb = some (.cells [.fn 78 [.ptr mb 0]])) (hm : s mb = some (.cells [.map mi])) (hi : s mi = some (.map (encM encB M))) :
    SpecR prg 85 [.sl 6 (l.map encObj) .no, .fn 86 [.ptr wb 0]] s k fun r s' k' => r = .sl 6 [] .no ∧ s' = upd s mi (some (.map (encM encB (seenN l M)))) ∧ k' = k := by
  have n1 : ¬ wb = mi := fun e => by subst e; rw [hw] at hi; cases hi
  have n2 : ¬ mb = mi := fun e => by subst e; rw [hm] at hi; cases hi
  refine specR_tr prg_mixed tr_view_filter_Object (Nat.le_of_ble_eq_true rfl) rfl ?_
  unfold pc_view_filter_Object rs_view_filter_Object
  simp only [sZ, initT, optI, splice, reduceIte, reduceCtorEq, Nat.reduceEqDiff, Nat.reduceAdd, Nat.reduceSub, Nat.reduceMul, Nat.reduceLeDiff, Nat.reduceLT, Int.reduceLT, Int.reduceLE, Int.reduceToNat, Int.reduceEq, Int.cast_ofNat_Int]
  refine loop_L (α := Unit) l.length (fun j _ => [(1, .fn 86 [.ptr wb 0]), (5, .sl 6 [] .nil), (8, .sl 6 (l.map encObj) .no), (9, .int .i64 l.length), (10, .int .i64 j)]) (fun j _ => upd s mi (some (.map (encM encB (seenN (l.take j) M))))) (fun _ _ => k)
    (fun _ _ => True) () (by rw [List.take_zero]; exact (updS hi).symm ▸ SExt.refl _) rfl (by (try simp only [TabLe_cons, TabLe_nil, tab_cons, tab_nil, upd_apply, Nat.reduceEqDiff, reduceIte, and_true]); repeat' (first | exact trivial | exact A.le_refl _ | exact le_strip_no _ _ _ | exact A.le_no _ _ _ | exact A.le_empty _ _ _ | refine And.intro ?_ ?_)) trivial ?_
  rintro j ⟨⟩ hj -
  try dsimp only
  simp only [sZ, initT, optI, splice, reduceIte, reduceCtorEq, Nat.reduceEqDiff, Nat.reduceAdd, Nat.reduceSub, Nat.reduceMul, Nat.reduceLeDiff, Nat.reduceLT, Int.reduceLT, Int.reduceLE, Int.reduceToNat, Int.reduceEq, Int.cast_ofNat_Int]
  refine brC_in (fun hlt => ?_) (fun hge => ?_)
  · have hj' : j < l.length := by have := of_decide_eq_true hlt; omega
    clear hlt
    have hww := wrap_succ hj' (by omega)
    have hg : (l.map encObj)[j]? = some (encObj l[j]) := objE.get hj'
    have hst := seenN_take l M hj'
    simp only [sZ, initT, optI, splice, reduceIte, reduceCtorEq, Nat.reduceEqDiff, Nat.reduceAdd, Nat.reduceSub, Nat.reduceMul, Nat.reduceLeDiff, Nat.reduceLT, Int.reduceLT, Int.reduceLE, Int.reduceToNat, Int.reduceEq, Int.cast_ofNat_Int, hg, len_encObj, wh_encObj, st_encObj]
    refine newS_in ?_
    intro b7 g7
    have f7 := g7
    simp only [upd_none] at f7
    have m1 : ¬ wb = b7 := fun e => by subst e; rw [hw] at f7; cases f7.2
    have m2 : ¬ mb = b7 := fun e => by subst e; rw [hm] at f7; cases f7.2
    have m3 : ¬ mi = b7 := fun e => f7.1.2 e
    simp only [sZ, initT, optI, splice, reduceIte, reduceCtorEq, Nat.reduceEqDiff, Nat.reduceAdd, Nat.reduceSub, Nat.reduceMul, Nat.reduceLeDiff, Nat.reduceLT, Int.reduceLT, Int.reduceLE, Int.reduceToNat, Int.reduceEq, Int.cast_ofNat_Int, f7, len_encObj, wh_encObj, st_encObj]
    refine callS_R (spec_objects_1N l[j] (hf _ (List.getElem_mem hj')) (seenN (l.take j) M) (wb := wb) (mb := mb) (mi := mi) (by simp only [upd_apply, m1, n1, reduceIte]; exact hw) (by simp only [upd_apply, m2, n2, reduceIte]; exact hm) (by simp only [upd_apply, m3, reduceIte])) ?_
    rintro r s' k' ⟨rfl, rfl, rfl⟩
    simp only [sZ, initT, optI, splice, reduceIte, reduceCtorEq, Nat.reduceEqDiff, Nat.reduceAdd, Nat.reduceSub, Nat.reduceMul, Nat.reduceLeDiff, Nat.reduceLT, Int.reduceLT, Int.reduceLE, Int.reduceToNat, Int.reduceEq, Int.cast_ofNat_Int, hww]
    refine next_L hj' () ?_ rfl (by (try simp only [TabLe_cons, TabLe_nil, tab_cons, tab_nil, upd_apply, Nat.reduceEqDiff, reduceIte, and_true]); repeat' (first | exact trivial | exact A.le_refl _ | exact le_strip_no _ _ _ | exact A.le_no _ _ _ | exact A.le_empty _ _ _ | refine And.intro ?_ ?_)) trivial
    rw [hst]
    exact sext_mid g7
  · have hje : j = l.length := by have := of_decide_eq_false hge; omega
    subst hje
    rw [List.take_length]
    simp only [sZ, initT, optI, splice, reduceIte, reduceCtorEq, Nat.reduceEqDiff, Nat.reduceAdd, Nat.reduceSub, Nat.reduceMul, Nat.reduceLeDiff, Nat.reduceLT, Int.reduceLT, Int.reduceLE, Int.reduceToNat, Int.reduceEq, Int.cast_ofNat_Int]
    exact ⟨_, _, _, ⟨rfl, rfl, rfl⟩, .le (A.le_empty _ _ _), fun _ => .inr rfl, .inl rfl⟩
noncomputable def keysN (m : List Obj) : List (ByteArray × Bool) := if mapV m = true then seenN m [] else []
theorem spec_objectsN (m : List Obj) (hm : MapFit m) (hl : m.length < 1000000) {mb mi : Nat} {s : Hp} {k : Nat → Tk} (hmb : s mb = some (.cells [.map mi])) (hi : s mi = some (.map (encM encB []))) :
    SpecR prg 44 [.agg (encMap m), .fn 78 [.ptr mb 0]] s k fun r s' k' => s' = upd s mi (some (.map (encM encB (keysN m)))) ∧ k' = k := by
  refine specR_tr prg_mixed tr_view_objects (Nat.le_of_ble_eq_true rfl) rfl ?_
  unfold pc_view_objects rs_view_objects
  have hv := fun s k => @spec_map m hm s k
  simp only [encMap] at hv
  simp only [sZ, initT, optI, splice, reduceIte, reduceCtorEq, Nat.reduceEqDiff, Nat.reduceAdd, Nat.reduceSub, Nat.reduceMul, Nat.reduceLeDiff, Nat.reduceLT, Int.reduceLT, Int.reduceLE, Int.reduceToNat, Int.reduceEq, Int.cast_ofNat_Int, encMap]
  (with_reducible refine newS_in ?_); intro b2 f2; simp only [upd_none] at f2
  simp only [sZ, initT, optI, splice, reduceIte, reduceCtorEq, Nat.reduceEqDiff, Nat.reduceAdd, Nat.reduceSub, Nat.reduceMul, Nat.reduceLeDiff, Nat.reduceLT, Int.reduceLT, Int.reduceLE, Int.reduceToNat, Int.reduceEq, Int.cast_ofNat_Int, f2]
  (with_reducible refine newS_in ?_); intro b3 f3; simp only [upd_none] at f3
  have m1 : ¬ mb = b2 := fun e => by subst e; rw [hmb] at f2; cases f2
  have m2 : ¬ mb = b3 := fun e => by subst e; rw [hmb] at f3; cases f3.2
  have m3 : ¬ mi = b2 := fun e => by subst e; rw [hi] at f2; cases f2
  have m4 : ¬ mi = b3 := fun e => by subst e; rw [hi] at f3; cases f3.2
  simp only [sZ, initT, optI, splice, reduceIte, reduceCtorEq, Nat.reduceEqDiff, Nat.reduceAdd, Nat.reduceSub, Nat.reduceMul, Nat.reduceLeDiff, Nat.reduceLT, Int.reduceLT, Int.reduceLE, Int.reduceToNat, Int.reduceEq, Int.cast_ofNat_Int, f2, f3]
  refine callS_quiet (hv _ _) ?_
  cases hmv : mapV m
  · have : keysN m = [] := by unfold keysN; rw [hmv]; rfl
    rw [this, updS hi]
    simp only [sZ, initT, optI, splice, reduceIte, reduceCtorEq, Nat.reduceEqDiff, Nat.reduceAdd, Nat.reduceSub, Nat.reduceMul, Nat.reduceLeDiff, Nat.reduceLT, Int.reduceLT, Int.reduceLE, Int.reduceToNat, Int.reduceEq, Int.cast_ofNat_Int, f2, f3, Bool.not_false]
    exact OutR.of2 ⟨rfl, rfl⟩ (less2 (by repeat (first | exact SExt.refl _ | (refine SExt.old ?_ (by first | (simp only [*]; done) | (simp only [upd_none]; assumption) | (simp only [upd_none, *, not_false_eq_true, and_self]; done)) _))))
  · have : keysN m = seenN m [] := by unfold keysN; rw [if_pos hmv]
    rw [this]
    simp only [sZ, initT, optI, splice, reduceIte, reduceCtorEq, Nat.reduceEqDiff, Nat.reduceAdd, Nat.reduceSub, Nat.reduceMul, Nat.reduceLeDiff, Nat.reduceLT, Int.reduceLT, Int.reduceLE, Int.reduceToNat, Int.reduceEq, Int.cast_ofNat_Int, f2, f3, Bool.not_true]
    refine callS_R (spec_filterN m hm.obj hl [] (wb := b3) (mb := mb) (mi := mi) (by simp only [upd_apply, reduceIte]) (by simp only [upd_apply, m1, m2, reduceIte]; exact hmb) (by simp only [upd_apply, m3, m4, reduceIte]; exact hi)) ?_
    rintro r s' k' ⟨rfl, rfl, rfl⟩
    simp only [sZ, initT, optI, splice, reduceIte, reduceCtorEq, Nat.reduceEqDiff, Nat.reduceAdd, Nat.reduceSub, Nat.reduceMul, Nat.reduceLeDiff, Nat.reduceLT, Int.reduceLT, Int.reduceLE, Int.reduceToNat, Int.reduceEq, Int.cast_ofNat_Int, f2, f3]
    refine OutR.of2 ⟨rfl, rfl⟩ fun id => ?_
    simp only [upd_apply]
    by_cases e : id = mi
    · rw [if_pos e, if_pos e]; exact .inr rfl
    · rw [if_neg e, if_neg e]
      by_cases e3 : id = b3
      · subst e3; exact .inl f3.2
      · rw [if_neg e3]
        by_cases e2 : id = b2
        · subst e2; exact .inl f2
        · rw [if_neg e2]; exact .inr rfl
end Go.Pv
