/- ViewChanges: the walk of the law. -/
import Derived.Test.YtlcacobkiglmbaaChgV
set_option linter.unusedVariables false
set_option linter.unusedSimpArgs false
set_option maxRecDepth 4000
set_option maxHeartbeats 4000000
namespace Go.Pv
open Go

theorem spec_few1 (o : Obj) (t : Tok) {s : Nat → Option Blk} {k : Nat → Tk} : Spec prg 19 [.agg [.sl 6 [encObj o] t], .int .i64 1] s k (.bool (fewM o)) s k := by
  have h := @spec14 [o] 1 (by decide) s k
  have e : (!decide ((1 : Int) < ([o] : List Obj).length) && ([o] : List Obj).all fewM) = fewM o := by
    have : decide ((1 : Int) < (([o] : List Obj).length : Int)) = false := rfl
    rw [this]
    simp
  rw [e] at h
  exact Spec.args h (.cons (A.le_agg (.cons (A.le_no _ _ _) .nil)) (.cons (A.le_refl _) .nil))
theorem spec_changes0 (m : List Obj) (o : Obj) (name : ByteArray) (h : ((!decide ((40 : Int) < m.length) && m.all fewM) && fewM o) = false) {s : Nat → Option Blk} {k : Nat → Tk} : Spec prg 4 [.agg (encMap m), .agg (encObj o), .str name] s k (.bool true) s k := by
  refine spec_tr prg_mixed tr_plaw19_ViewChanges (Nat.le_of_ble_eq_true rfl) rfl ?_
  unfold pc_plaw19_ViewChanges rs_plaw19_ViewChanges
  have hF := fun s k => @spec_fewV m s k
  simp only [encMap] at hF
  generalize (!decide ((40 : Int) < m.length) && m.all fewM) = F at *
  simp only [sZ, initT, optI, splice, reduceIte, reduceCtorEq, Nat.reduceEqDiff, Nat.reduceAdd, Nat.reduceSub, Nat.reduceMul, Nat.reduceLeDiff, Nat.reduceLT, Int.reduceLT, Int.reduceLE, Int.reduceToNat, Int.reduceEq, Int.cast_ofNat_Int, encMap]
  (with_reducible refine newS_in ?_); intro b3 f3; simp only [upd_none] at f3
  simp only [sZ, initT, optI, splice, reduceIte, reduceCtorEq, Nat.reduceEqDiff, Nat.reduceAdd, Nat.reduceSub, Nat.reduceMul, Nat.reduceLeDiff, Nat.reduceLT, Int.reduceLT, Int.reduceLE, Int.reduceToNat, Int.reduceEq, Int.cast_ofNat_Int, len_encObj, wh_encObj, st_encObj]
  (with_reducible refine newS_in ?_); intro b4 f4; simp only [upd_none] at f4
  simp only [sZ, initT, optI, splice, reduceIte, reduceCtorEq, Nat.reduceEqDiff, Nat.reduceAdd, Nat.reduceSub, Nat.reduceMul, Nat.reduceLeDiff, Nat.reduceLT, Int.reduceLT, Int.reduceLE, Int.reduceToNat, Int.reduceEq, Int.cast_ofNat_Int, f3, f4]
  refine callS_quiet spec_headV ?_
  simp only [sZ, initT, optI, splice, reduceIte, reduceCtorEq, Nat.reduceEqDiff, Nat.reduceAdd, Nat.reduceSub, Nat.reduceMul, Nat.reduceLeDiff, Nat.reduceLT, Int.reduceLT, Int.reduceLE, Int.reduceToNat, Int.reduceEq, Int.cast_ofNat_Int, f3, f4]
  refine callS_quiet (hF _ _) ?_
  cases F
  · simp only [sZ, initT, optI, splice, reduceIte, reduceCtorEq, Nat.reduceEqDiff, Nat.reduceAdd, Nat.reduceSub, Nat.reduceMul, Nat.reduceLeDiff, Nat.reduceLT, Int.reduceLT, Int.reduceLE, Int.reduceToNat, Int.reduceEq, Int.cast_ofNat_Int, f3, f4, Bool.not_false]
    refine OutQ.eq (by repeat (first | exact SExt.refl _ | (refine SExt.old ?_ (by first | (simp only [*]; done) | (simp only [upd_none]; assumption) | (simp only [upd_none, *, not_false_eq_true, and_self]; done)) _))) rfl
  · rw [Bool.true_and] at h
    simp only [sZ, initT, optI, splice, reduceIte, reduceCtorEq, Nat.reduceEqDiff, Nat.reduceAdd, Nat.reduceSub, Nat.reduceMul, Nat.reduceLeDiff, Nat.reduceLT, Int.reduceLT, Int.reduceLE, Int.reduceToNat, Int.reduceEq, Int.cast_ofNat_Int, f3, f4, Bool.not_true, len_encObj, wh_encObj, st_encObj]
    refine callS_quiet (spec_few1 o _) ?_
    rw [h]
    simp only [sZ, initT, optI, splice, reduceIte, reduceCtorEq, Nat.reduceEqDiff, Nat.reduceAdd, Nat.reduceSub, Nat.reduceMul, Nat.reduceLeDiff, Nat.reduceLT, Int.reduceLT, Int.reduceLE, Int.reduceToNat, Int.reduceEq, Int.cast_ofNat_Int, f3, f4, Bool.not_false]
    refine OutQ.eq (by repeat (first | exact SExt.refl _ | (refine SExt.old ?_ (by first | (simp only [*]; done) | (simp only [upd_none]; assumption) | (simp only [upd_none, *, not_false_eq_true, and_self]; done)) _))) rfl
theorem spec_changes1 (m : List Obj) (o : Obj) (name : ByteArray) (h : ((!decide ((40 : Int) < m.length) && m.all fewM) && fewM o) = true) (hm : MapFit m) (ho : ObjFit o) (hl0 : m.length < 999999) {s : Nat → Option Blk} {k : Nat → Tk} :
    Spec prg 4 [.agg (encMap m), .agg (encObj o), .str name] s k (.bool true) s k := by
  refine spec_tr prg_mixed tr_plaw19_ViewChanges (Nat.le_of_ble_eq_true rfl) rfl ?_
  unfold pc_plaw19_ViewChanges rs_plaw19_ViewChanges
  have hl : m.length < 1000000 := by omega
  have hF := fun s k => @spec_fewV m s k
  have hP := fun s k => @spec_put m o hm ho hl s k
  have hT := fun s k => @spec_get o.tags viewS ho.tags s k
  have hN := fun s k => @spec_Name (tagG o.tags viewS).1 (tagG_size ho.tag) s k
  have hK := fun s k => @spec_find m o.id hm.len s k
  have hO := fun s k => @spec_Of m hm hl name s k
  have o5 : (encObj o)[5]? = some (.sl 2 (o.tags.map encTag) .no) := rfl
  rw [Bool.and_eq_true] at h
  rw [h.1] at hF
  have hfo := h.2
  have hR1 : (putR m o).2 = 0 → mapV m = true ∧ objV o = true ∧ (putR m o).1 = putF m o := fun e => by
    unfold putR at e ⊢
    by_cases c : (mapV m && objV o) = true
    · rw [if_pos c]
      rw [Bool.and_eq_true] at c
      exact ⟨c.1, c.2, rfl⟩
    · rw [if_neg c] at e
      cases e
  have hyes := fun a b c => @own_yes o name a b c
  simp only [encMap] at hF hP hK hO
  generalize hmm : m.map encObj = mm at *
  generalize hpm : putR m o = pr at *
  obtain ⟨more, ec⟩ := pr
  dsimp only at hP hR1
  generalize hgo : tagG o.tags viewS = g at *
  obtain ⟨v, is⟩ := g
  dsimp only at hT hN hyes
  have hv8 : viewS = ⟨#[118, 105, 101, 119]⟩ := rfl
  rw [hv8] at hT
  clear h
  simp only [sZ, initT, optI, splice, reduceIte, reduceCtorEq, Nat.reduceEqDiff, Nat.reduceAdd, Nat.reduceSub, Nat.reduceMul, Nat.reduceLeDiff, Nat.reduceLT, Int.reduceLT, Int.reduceLE, Int.reduceToNat, Int.reduceEq, Int.cast_ofNat_Int, encMap, hmm]
  (with_reducible refine newS_in ?_); intro b3 f3; simp only [upd_none] at f3
  simp only [sZ, initT, optI, splice, reduceIte, reduceCtorEq, Nat.reduceEqDiff, Nat.reduceAdd, Nat.reduceSub, Nat.reduceMul, Nat.reduceLeDiff, Nat.reduceLT, Int.reduceLT, Int.reduceLE, Int.reduceToNat, Int.reduceEq, Int.cast_ofNat_Int, len_encObj, wh_encObj, st_encObj]
  (with_reducible refine newS_in ?_); intro b4 f4; simp only [upd_none] at f4
  simp only [sZ, initT, optI, splice, reduceIte, reduceCtorEq, Nat.reduceEqDiff, Nat.reduceAdd, Nat.reduceSub, Nat.reduceMul, Nat.reduceLeDiff, Nat.reduceLT, Int.reduceLT, Int.reduceLE, Int.reduceToNat, Int.reduceEq, Int.cast_ofNat_Int, f3, f4]
  refine callS_quiet spec_headV ?_
  simp only [sZ, initT, optI, splice, reduceIte, reduceCtorEq, Nat.reduceEqDiff, Nat.reduceAdd, Nat.reduceSub, Nat.reduceMul, Nat.reduceLeDiff, Nat.reduceLT, Int.reduceLT, Int.reduceLE, Int.reduceToNat, Int.reduceEq, Int.cast_ofNat_Int, f3, f4]
  refine callS_quiet (hF _ _) ?_
  simp only [sZ, initT, optI, splice, reduceIte, reduceCtorEq, Nat.reduceEqDiff, Nat.reduceAdd, Nat.reduceSub, Nat.reduceMul, Nat.reduceLeDiff, Nat.reduceLT, Int.reduceLT, Int.reduceLE, Int.reduceToNat, Int.reduceEq, Int.cast_ofNat_Int, f3, f4, Bool.not_true, len_encObj, wh_encObj, st_encObj]
  refine callS_quiet (spec_few1 o _) ?_
  rw [hfo]
  simp only [sZ, initT, optI, splice, reduceIte, reduceCtorEq, Nat.reduceEqDiff, Nat.reduceAdd, Nat.reduceSub, Nat.reduceMul, Nat.reduceLeDiff, Nat.reduceLT, Int.reduceLT, Int.reduceLE, Int.reduceToNat, Int.reduceEq, Int.cast_ofNat_Int, f3, f4, Bool.not_true]
  by_cases hsz : (300 : Int) < (name.size : Int)
  · have hd := decide_eq_true hsz
    simp only [sZ, initT, optI, splice, reduceIte, reduceCtorEq, Nat.reduceEqDiff, Nat.reduceAdd, Nat.reduceSub, Nat.reduceMul, Nat.reduceLeDiff, Nat.reduceLT, Int.reduceLT, Int.reduceLE, Int.reduceToNat, Int.reduceEq, Int.cast_ofNat_Int, f3, f4, hd]
    refine OutQ.eq (by repeat (first | exact SExt.refl _ | (refine SExt.old ?_ (by first | (simp only [*]; done) | (simp only [upd_none]; assumption) | (simp only [upd_none, *, not_false_eq_true, and_self]; done)) _))) rfl
  have hd := decide_eq_false hsz
  simp only [sZ, initT, optI, splice, reduceIte, reduceCtorEq, Nat.reduceEqDiff, Nat.reduceAdd, Nat.reduceSub, Nat.reduceMul, Nat.reduceLeDiff, Nat.reduceLT, Int.reduceLT, Int.reduceLE, Int.reduceToNat, Int.reduceEq, Int.cast_ofNat_Int, f3, f4, hd, len_encObj, wh_encObj, st_encObj]
  refine callS_quiet (hP _ _) ?_
  simp only [sZ, initT, optI, splice, reduceIte, reduceCtorEq, Nat.reduceEqDiff, Nat.reduceAdd, Nat.reduceSub, Nat.reduceMul, Nat.reduceLeDiff, Nat.reduceLT, Int.reduceLT, Int.reduceLE, Int.reduceToNat, Int.reduceEq, Int.cast_ofNat_Int, f3, f4]
  (with_reducible refine newS_in ?_); intro b8 f8; simp only [upd_none] at f8
  simp only [sZ, initT, optI, splice, reduceIte, reduceCtorEq, Nat.reduceEqDiff, Nat.reduceAdd, Nat.reduceSub, Nat.reduceMul, Nat.reduceLeDiff, Nat.reduceLT, Int.reduceLT, Int.reduceLE, Int.reduceToNat, Int.reduceEq, Int.cast_ofNat_Int, f3, f4, f8, o5]
  refine callS_quiet (hT _ _) ?_
  simp only [sZ, initT, optI, splice, reduceIte, reduceCtorEq, Nat.reduceEqDiff, Nat.reduceAdd, Nat.reduceSub, Nat.reduceMul, Nat.reduceLeDiff, Nat.reduceLT, Int.reduceLT, Int.reduceLE, Int.reduceToNat, Int.reduceEq, Int.cast_ofNat_Int, f3, f4, f8]
  by_cases hec : ec = 0
  case neg =>
    have d1 : (!decide (ec = 0)) = true := by rw [decide_eq_false hec]; rfl
    simp only [sZ, initT, optI, splice, reduceIte, reduceCtorEq, Nat.reduceEqDiff, Nat.reduceAdd, Nat.reduceSub, Nat.reduceMul, Nat.reduceLeDiff, Nat.reduceLT, Int.reduceLT, Int.reduceLE, Int.reduceToNat, Int.reduceEq, Int.cast_ofNat_Int, f3, f4, f8, d1]
    refine OutQ.eq (by repeat (first | exact SExt.refl _ | (refine SExt.old ?_ (by first | (simp only [*]; done) | (simp only [upd_none]; assumption) | (simp only [upd_none, *, not_false_eq_true, and_self]; done)) _))) rfl
  have d1 : (!decide (ec = 0)) = false := by rw [decide_eq_true hec]; rfl
  cases is
  · simp only [sZ, initT, optI, splice, reduceIte, reduceCtorEq, Nat.reduceEqDiff, Nat.reduceAdd, Nat.reduceSub, Nat.reduceMul, Nat.reduceLeDiff, Nat.reduceLT, Int.reduceLT, Int.reduceLE, Int.reduceToNat, Int.reduceEq, Int.cast_ofNat_Int, f3, f4, f8, d1, Bool.not_false]
    refine OutQ.eq (by repeat (first | exact SExt.refl _ | (refine SExt.old ?_ (by first | (simp only [*]; done) | (simp only [upd_none]; assumption) | (simp only [upd_none, *, not_false_eq_true, and_self]; done)) _))) rfl
  simp only [sZ, initT, optI, splice, reduceIte, reduceCtorEq, Nat.reduceEqDiff, Nat.reduceAdd, Nat.reduceSub, Nat.reduceMul, Nat.reduceLeDiff, Nat.reduceLT, Int.reduceLT, Int.reduceLE, Int.reduceToNat, Int.reduceEq, Int.cast_ofNat_Int, f3, f4, f8, d1, Bool.not_true]
  refine callS_quiet (hN _ _) ?_
  cases hnv : nameF v
  · simp only [sZ, initT, optI, splice, reduceIte, reduceCtorEq, Nat.reduceEqDiff, Nat.reduceAdd, Nat.reduceSub, Nat.reduceMul, Nat.reduceLeDiff, Nat.reduceLT, Int.reduceLT, Int.reduceLE, Int.reduceToNat, Int.reduceEq, Int.cast_ofNat_Int, f3, f4, f8, Bool.not_false]
    refine OutQ.eq (by repeat (first | exact SExt.refl _ | (refine SExt.old ?_ (by first | (simp only [*]; done) | (simp only [upd_none]; assumption) | (simp only [upd_none, *, not_false_eq_true, and_self]; done)) _))) rfl
  simp only [sZ, initT, optI, splice, reduceIte, reduceCtorEq, Nat.reduceEqDiff, Nat.reduceAdd, Nat.reduceSub, Nat.reduceMul, Nat.reduceLeDiff, Nat.reduceLT, Int.reduceLT, Int.reduceLE, Int.reduceToNat, Int.reduceEq, Int.cast_ofNat_Int, f3, f4, f8, Bool.not_true]
  by_cases hvn : v = name
  · have d2 := decide_eq_true hvn
    simp only [sZ, initT, optI, splice, reduceIte, reduceCtorEq, Nat.reduceEqDiff, Nat.reduceAdd, Nat.reduceSub, Nat.reduceMul, Nat.reduceLeDiff, Nat.reduceLT, Int.reduceLT, Int.reduceLE, Int.reduceToNat, Int.reduceEq, Int.cast_ofNat_Int, f3, f4, f8, d2]
    refine OutQ.eq (by repeat (first | exact SExt.refl _ | (refine SExt.old ?_ (by first | (simp only [*]; done) | (simp only [upd_none]; assumption) | (simp only [upd_none, *, not_false_eq_true, and_self]; done)) _))) rfl
  have d2 := decide_eq_false hvn
  obtain ⟨hv, hov, hmo⟩ := hR1 hec
  have hno := hyes rfl hnv hvn
  obtain ⟨pf1, pf2⟩ := put_fit hv hm ho hl
  have hO2 := fun s k => @spec_Of more (by rw [hmo]; exact pf1) (by
    rw [hmo]
    omega) name s k
  have hSm := fun s k => @spec_sameM (ofF m name) (ofF m name) (Nat.lt_of_le_of_lt (wantF_le _ _) hm.len) (fun p hp => ⟨((ofF_fit hm (pOf name)).obj p hp).refs, ((ofF_fit hm (pOf name)).obj p hp).tags⟩) s k
  have hdt : decide (ofF m name = ofF m name) = true := decide_eq_true rfl
  rw [hdt] at hSm
  have hend : (∀ p ∈ m, p.id = o.id → pOf name (ownF p).1 (ownF p).2 = false) → ∀ s k, Spec prg 16 [.agg [.sl 6 (more.map encObj) .no], .str name] s k (.agg (encMap (ofF m name))) s k := fun hp s k => by
    have h1 := hO2 s k
    rw [hmo] at h1 ⊢
    rw [put_same hv hov hl name hno hp] at h1
    exact h1
  simp only [sZ, initT, optI, splice, reduceIte, reduceCtorEq, Nat.reduceEqDiff, Nat.reduceAdd, Nat.reduceSub, Nat.reduceMul, Nat.reduceLeDiff, Nat.reduceLT, Int.reduceLT, Int.reduceLE, Int.reduceToNat, Int.reduceEq, Int.cast_ofNat_Int, f3, f4, f8, d2, encObj_0]
  refine callS_quiet (hK _ _) ?_
  rcases idxOf_two (fun p : Obj => decide (p.id = o.id)) m with ⟨g1, g2⟩ | ⟨i, hi, g1, g2⟩
  · have hE := hend fun p hp he => by
      have := g2 p hp
      rw [decide_eq_false_iff_not] at this
      exact absurd he this
    rw [g1]
    simp only [sZ, initT, optI, splice, reduceIte, reduceCtorEq, Nat.reduceEqDiff, Nat.reduceAdd, Nat.reduceSub, Nat.reduceMul, Nat.reduceLeDiff, Nat.reduceLT, Int.reduceLT, Int.reduceLE, Int.reduceToNat, Int.reduceEq, Int.cast_ofNat_Int, f3, f4, f8]
    refine callQS_quiet (hO _ _) ?_
    simp only [sZ, initT, optI, splice, reduceIte, reduceCtorEq, Nat.reduceEqDiff, Nat.reduceAdd, Nat.reduceSub, Nat.reduceMul, Nat.reduceLeDiff, Nat.reduceLT, Int.reduceLT, Int.reduceLE, Int.reduceToNat, Int.reduceEq, Int.cast_ofNat_Int, f3, f4, f8]
    refine callQS_quiet (hE _ _) ?_
    simp only [sZ, initT, optI, splice, reduceIte, reduceCtorEq, Nat.reduceEqDiff, Nat.reduceAdd, Nat.reduceSub, Nat.reduceMul, Nat.reduceLeDiff, Nat.reduceLT, Int.reduceLT, Int.reduceLE, Int.reduceToNat, Int.reduceEq, Int.cast_ofNat_Int, f3, f4, f8]
    refine callQS_quiet (hSm _ _) ?_
    simp only [sZ, initT, optI, splice, reduceIte, reduceCtorEq, Nat.reduceEqDiff, Nat.reduceAdd, Nat.reduceSub, Nat.reduceMul, Nat.reduceLeDiff, Nat.reduceLT, Int.reduceLT, Int.reduceLE, Int.reduceToNat, Int.reduceEq, Int.cast_ofNat_Int, f3, f4, f8]
    refine OutQ.eq (by repeat (first | exact SExt.refl _ | (refine SExt.old ?_ (by first | (simp only [*]; done) | (simp only [upd_none]; assumption) | (simp only [upd_none, *, not_false_eq_true, and_self]; done)) _))) rfl
  · have hid := of_decide_eq_true g2
    have hmml : mm.length = m.length := by rw [← hmm]; exact List.length_map _
    have hg : mm[i]? = some (encObj m[i]) := by rw [← hmm]; exact objE.get hi
    have i5 : (encObj m[i])[5]? = some (.sl 2 (m[i].tags.map encTag) .no) := rfl
    have p1 : (0 : Int) ≤ (i : Int) := by omega
    have p2 : (i : Int) < (m.length : Int) := by omega
    have e2 : decide ((i : Int) < (m.length : Int)) = true := decide_eq_true p2
    have hfi := hm.obj m[i] (List.getElem_mem hi)
    have hT2 := fun s k => @spec_get m[i].tags viewS hfi.tags s k
    have hN2 := fun s k => @spec_Name (tagG m[i].tags viewS).1 (tagG_size hfi.tag) s k
    have hyes2 : (tagG m[i].tags viewS).2 = true → nameF (tagG m[i].tags viewS).1 = true → (tagG m[i].tags viewS).1 ≠ name → pOf name (ownF m[i]).1 (ownF m[i]).2 = false := own_yes
    generalize tagG m[i].tags viewS = g at *
    obtain ⟨v2, is2⟩ := g
    dsimp only at hT2 hN2 hyes2
    rw [hv8] at hT2
    rw [g1]
    simp only [sZ, initT, optI, splice, reduceIte, reduceCtorEq, Nat.reduceEqDiff, Nat.reduceAdd, Nat.reduceSub, Nat.reduceMul, Nat.reduceLeDiff, Nat.reduceLT, Int.reduceLT, Int.reduceLE, Int.reduceToNat, Int.reduceEq, Int.cast_ofNat_Int, f3, f4, f8, hmml, hg, i5, p1, e2, Int.toNat_natCast]
    refine callS_quiet (hT2 _ _) ?_
    cases is2
    · simp only [sZ, initT, optI, splice, reduceIte, reduceCtorEq, Nat.reduceEqDiff, Nat.reduceAdd, Nat.reduceSub, Nat.reduceMul, Nat.reduceLeDiff, Nat.reduceLT, Int.reduceLT, Int.reduceLE, Int.reduceToNat, Int.reduceEq, Int.cast_ofNat_Int, f3, f4, f8, Bool.not_false]
      refine OutQ.eq (by repeat (first | exact SExt.refl _ | (refine SExt.old ?_ (by first | (simp only [*]; done) | (simp only [upd_none]; assumption) | (simp only [upd_none, *, not_false_eq_true, and_self]; done)) _))) rfl
    simp only [sZ, initT, optI, splice, reduceIte, reduceCtorEq, Nat.reduceEqDiff, Nat.reduceAdd, Nat.reduceSub, Nat.reduceMul, Nat.reduceLeDiff, Nat.reduceLT, Int.reduceLT, Int.reduceLE, Int.reduceToNat, Int.reduceEq, Int.cast_ofNat_Int, f3, f4, f8, Bool.not_true]
    refine callS_quiet (hN2 _ _) ?_
    cases hnv2 : nameF v2
    · simp only [sZ, initT, optI, splice, reduceIte, reduceCtorEq, Nat.reduceEqDiff, Nat.reduceAdd, Nat.reduceSub, Nat.reduceMul, Nat.reduceLeDiff, Nat.reduceLT, Int.reduceLT, Int.reduceLE, Int.reduceToNat, Int.reduceEq, Int.cast_ofNat_Int, f3, f4, f8, Bool.not_false]
      refine OutQ.eq (by repeat (first | exact SExt.refl _ | (refine SExt.old ?_ (by first | (simp only [*]; done) | (simp only [upd_none]; assumption) | (simp only [upd_none, *, not_false_eq_true, and_self]; done)) _))) rfl
    simp only [sZ, initT, optI, splice, reduceIte, reduceCtorEq, Nat.reduceEqDiff, Nat.reduceAdd, Nat.reduceSub, Nat.reduceMul, Nat.reduceLeDiff, Nat.reduceLT, Int.reduceLT, Int.reduceLE, Int.reduceToNat, Int.reduceEq, Int.cast_ofNat_Int, f3, f4, f8, Bool.not_true]
    by_cases hvn2 : v2 = name
    · have d3 := decide_eq_true hvn2
      simp only [sZ, initT, optI, splice, reduceIte, reduceCtorEq, Nat.reduceEqDiff, Nat.reduceAdd, Nat.reduceSub, Nat.reduceMul, Nat.reduceLeDiff, Nat.reduceLT, Int.reduceLT, Int.reduceLE, Int.reduceToNat, Int.reduceEq, Int.cast_ofNat_Int, f3, f4, f8, d3]
      refine OutQ.eq (by repeat (first | exact SExt.refl _ | (refine SExt.old ?_ (by first | (simp only [*]; done) | (simp only [upd_none]; assumption) | (simp only [upd_none, *, not_false_eq_true, and_self]; done)) _))) rfl
    have d3 := decide_eq_false hvn2
    have hE := hend fun p hp he => by
      have : p = m[i] := id_inj hv hp (List.getElem_mem hi) (he.trans hid.symm)
      rw [this]
      exact hyes2 rfl hnv2 hvn2
    simp only [sZ, initT, optI, splice, reduceIte, reduceCtorEq, Nat.reduceEqDiff, Nat.reduceAdd, Nat.reduceSub, Nat.reduceMul, Nat.reduceLeDiff, Nat.reduceLT, Int.reduceLT, Int.reduceLE, Int.reduceToNat, Int.reduceEq, Int.cast_ofNat_Int, f3, f4, f8, d3]
    refine callQS_quiet (hO _ _) ?_
    simp only [sZ, initT, optI, splice, reduceIte, reduceCtorEq, Nat.reduceEqDiff, Nat.reduceAdd, Nat.reduceSub, Nat.reduceMul, Nat.reduceLeDiff, Nat.reduceLT, Int.reduceLT, Int.reduceLE, Int.reduceToNat, Int.reduceEq, Int.cast_ofNat_Int, f3, f4, f8]
    refine callQS_quiet (hE _ _) ?_
    simp only [sZ, initT, optI, splice, reduceIte, reduceCtorEq, Nat.reduceEqDiff, Nat.reduceAdd, Nat.reduceSub, Nat.reduceMul, Nat.reduceLeDiff, Nat.reduceLT, Int.reduceLT, Int.reduceLE, Int.reduceToNat, Int.reduceEq, Int.cast_ofNat_Int, f3, f4, f8]
    refine callQS_quiet (hSm _ _) ?_
    simp only [sZ, initT, optI, splice, reduceIte, reduceCtorEq, Nat.reduceEqDiff, Nat.reduceAdd, Nat.reduceSub, Nat.reduceMul, Nat.reduceLeDiff, Nat.reduceLT, Int.reduceLT, Int.reduceLE, Int.reduceToNat, Int.reduceEq, Int.cast_ofNat_Int, f3, f4, f8]
    refine OutQ.eq (by repeat (first | exact SExt.refl _ | (refine SExt.old ?_ (by first | (simp only [*]; done) | (simp only [upd_none]; assumption) | (simp only [upd_none, *, not_false_eq_true, and_self]; done)) _))) rfl
theorem spec_changesLaw (m : List Obj) (o : Obj) (name : ByteArray) (hm : ∀ o ∈ m, ObjSm o) (ho : ObjSm o) {s : Nat → Option Blk} {k : Nat → Tk} : Spec prg 4 [.agg (encMap m), .agg (encObj o), .str name] s k (.bool true) s k := by
  cases h : (!decide ((40 : Int) < m.length) && m.all fewM) && fewM o
  · exact spec_changes0 m o name h
  · have h2 := h
    rw [Bool.and_eq_true] at h2
    have hl : m.length < 999999 := by
      have := h2.1
      simp only [Bool.and_eq_true, Bool.not_eq_true', decide_eq_false_iff_not] at this
      omega
    exact spec_changes1 m o name h (fewV_fit h2.1 hm) (fit_M h2.2 ho) hl
end Go.Pv
