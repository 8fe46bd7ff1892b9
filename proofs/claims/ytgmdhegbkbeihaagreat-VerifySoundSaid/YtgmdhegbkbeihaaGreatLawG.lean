/- verify.Accept. -/
import Derived.Test.YtgmdhegbkbeihaaGreatLawF
set_option linter.unusedVariables false
set_option linter.unusedSimpArgs false
set_option maxRecDepth 4000
set_option maxHeartbeats 1000000
namespace Go.Pv
open Go

def showsF (k : Int) (m : List Obj) : Edit → Bool := if k = 1 then droppedF m else if k = 2 then blankedF m else if k = 3 then movedF m else putF
def togF (k : Int) : Edit → Edit → Bool := if k = 4 then alikeF else othersF
def manyF (k : Int) : Int := if k = 1 then 5 else if k = 4 then 4 else 3
def acceptF (m : List Obj) (l : List Edit) (e : Evid) : Bool :=
  decide (1 ≤ e.kind) && decide (e.kind ≤ 4) && decide ((e.edits.length : Int) = manyF e.kind) && goF (showsF e.kind m) (togF e.kind) l e.edits [] (-1) && (!decide (e.kind = 1) || decide ((l.length : Int) - dropsF l < dropsF l))
theorem SExt.trans {a b c : Nat → Option Blk} (h : SExt a b) (h' : SExt b c) : SExt a c := fun id hid => by
  rw [h' id (by rw [h id hid]; exact hid), h id hid]
theorem OutQ.eqk {s s' : Nat → Option Blk} {k k' : Nat → Tk} {t : Nat → A} {r r1 : A} (h2 : SExt s s') (hk : KExt k k') (h1 : r1 = r) : OutQ s k r r1 ⟨t, s', k'⟩ := ⟨.le (h1 ▸ A.le_refl _), h2, hk⟩
theorem spec8 (m : List Obj) (l : List Edit) (e : Evid) {s : Nat → Option Blk} {k : Nat → Tk} (hm : m.length < 4611686018427387904) (hmt : ∀ o ∈ m, o.tags.length < 4611686018427387904) (hl : l.length < 4611686018427387904) (hlt : ∀ e ∈ l, e.obj.tags.length < 4611686018427387904) :
    Spec prg 22 [.agg (encMap m), .sl 15 (l.map encEdit) .no, .agg (encEvid e)] s k (.bool (acceptF m l e)) s k := by
  refine spec_tr prg_mixed tr_verify_Accept (Nat.le_of_ble_eq_true rfl) rfl ?_
  unfold pc_verify_Accept rs_verify_Accept
  obtain ⟨kd, es⟩ := e
  have hcase : kd < 0 ∨ 5 ≤ kd ∨ kd = 0 ∨ kd = 1 ∨ kd = 2 ∨ kd = 3 ∨ kd = 4 := by omega
  rcases hcase with h | h | rfl | rfl | rfl | rfl | rfl
  · have e1 : ¬ 1 ≤ kd := by omega
    repeat' (first | (refine callS_quiet (spec15) ?_) | (first | (with_reducible refine newS_in ?_; intro _ hid_; simp only [upd_none] at hid_) | (with_reducible refine newR_in ?_; intro _ hid_ hih_; simp only [upd_none, upd_none', rr_eqs2, and_true] at hid_ hih_) | (with_reducible refine mkmS_in ?_; intro _ hid_; simp only [upd_none] at hid_)) | (with_reducible refine brC_in (fun h_ => ?_) (fun h_ => ?_)) | (with_reducible refine brG_in (fun h_ => ?_) (fun h_ => ?_)) | (with_reducible refine brN_in (fun h_ => ?_) (fun h_ => ?_)) | simp only [sZ, initT, optI, splice, reduceIte, reduceCtorEq, Nat.reduceEqDiff, Nat.reduceAdd, Nat.reduceSub, Nat.reduceMul, Nat.reduceLeDiff, Nat.reduceLT, Int.reduceLT, Int.reduceLE, Int.reduceToNat, Int.reduceEq, Int.cast_ofNat_Int, *, -hmt, -hlt, encMap, encEvid, kindsA])
    refine OutQ.eq (by repeat (first | exact SExt.refl _ | (refine SExt.old ?_ (by first | (simp only [*]; done) | (simp only [upd_none]; assumption) | (simp only [upd_none, *, not_false_eq_true, and_self]; done)) _))) ?_
    simp [acceptF, e1]
  · have e1 : ¬ kd ≤ 4 := by omega
    have e2 : ¬ kd < 0 := by omega
    repeat' (first | (refine callS_quiet (spec15) ?_) | (first | (with_reducible refine newS_in ?_; intro _ hid_; simp only [upd_none] at hid_) | (with_reducible refine newR_in ?_; intro _ hid_ hih_; simp only [upd_none, upd_none', rr_eqs2, and_true] at hid_ hih_) | (with_reducible refine mkmS_in ?_; intro _ hid_; simp only [upd_none] at hid_)) | (with_reducible refine brC_in (fun h_ => ?_) (fun h_ => ?_)) | (with_reducible refine brG_in (fun h_ => ?_) (fun h_ => ?_)) | (with_reducible refine brN_in (fun h_ => ?_) (fun h_ => ?_)) | simp only [sZ, initT, optI, splice, reduceIte, reduceCtorEq, Nat.reduceEqDiff, Nat.reduceAdd, Nat.reduceSub, Nat.reduceMul, Nat.reduceLeDiff, Nat.reduceLT, Int.reduceLT, Int.reduceLE, Int.reduceToNat, Int.reduceEq, Int.cast_ofNat_Int, *, -hmt, -hlt, encMap, encEvid, kindsA])
    refine OutQ.eq (by repeat (first | exact SExt.refl _ | (refine SExt.old ?_ (by first | (simp only [*]; done) | (simp only [upd_none]; assumption) | (simp only [upd_none, *, not_false_eq_true, and_self]; done)) _))) ?_
    simp [acceptF, e1]
  · repeat' (first | (refine callS_quiet (spec15) ?_) | (first | (with_reducible refine newS_in ?_; intro _ hid_; simp only [upd_none] at hid_) | (with_reducible refine newR_in ?_; intro _ hid_ hih_; simp only [upd_none, upd_none', rr_eqs2, and_true] at hid_ hih_) | (with_reducible refine mkmS_in ?_; intro _ hid_; simp only [upd_none] at hid_)) | (with_reducible refine brC_in (fun h_ => ?_) (fun h_ => ?_)) | (with_reducible refine brG_in (fun h_ => ?_) (fun h_ => ?_)) | (with_reducible refine brN_in (fun h_ => ?_) (fun h_ => ?_)) | simp only [sZ, initT, optI, splice, reduceIte, reduceCtorEq, Nat.reduceEqDiff, Nat.reduceAdd, Nat.reduceSub, Nat.reduceMul, Nat.reduceLeDiff, Nat.reduceLT, Int.reduceLT, Int.reduceLE, Int.reduceToNat, Int.reduceEq, Int.cast_ofNat_Int, *, -hmt, -hlt, encMap, encEvid, kindsA])
    refine OutQ.eq (by repeat (first | exact SExt.refl _ | (refine SExt.old ?_ (by first | (simp only [*]; done) | (simp only [upd_none]; assumption) | (simp only [upd_none, *, not_false_eq_true, and_self]; done)) _))) ?_
    simp [acceptF]
  · repeat' (first | (refine callS_quiet (spec15) ?_) | (first | (with_reducible refine newS_in ?_; intro _ hid_; simp only [upd_none] at hid_) | (with_reducible refine newR_in ?_; intro _ hid_ hih_; simp only [upd_none, upd_none', rr_eqs2, and_true] at hid_ hih_) | (with_reducible refine mkmS_in ?_; intro _ hid_; simp only [upd_none] at hid_)) | (with_reducible refine brC_in (fun h_ => ?_) (fun h_ => ?_)) | (with_reducible refine brG_in (fun h_ => ?_) (fun h_ => ?_)) | (with_reducible refine brN_in (fun h_ => ?_) (fun h_ => ?_)) | simp only [sZ, initT, optI, splice, reduceIte, reduceCtorEq, Nat.reduceEqDiff, Nat.reduceAdd, Nat.reduceSub, Nat.reduceMul, Nat.reduceLeDiff, Nat.reduceLT, Int.reduceLT, Int.reduceLE, Int.reduceToNat, Int.reduceEq, Int.cast_ofNat_Int, *, -hmt, -hlt, encMap, encEvid, kindsA])
    · have e1 : ¬ (es.length : Int) = 5 := by simpa using h_
      refine OutQ.eq (by repeat (first | exact SExt.refl _ | (refine SExt.old ?_ (by first | (simp only [*]; done) | (simp only [upd_none]; assumption) | (simp only [upd_none, *, not_false_eq_true, and_self]; done)) _))) ?_
      simp [acceptF, manyF, e1]
    · have e1 : (es.length : Int) = 5 := by simpa using h_
      refine acc1 m l es 86 87 (.int .i64 5) (droppedF m) othersF (k0 := k) hl (by omega) (fun e _ s k => spec21 m e hm) (fun a _ b _ s k => spec22 a b) rfl rfl rfl rfl rfl rfl rfl rfl (by simp only [upd_apply, *, reduceIte]) (by simp only [upd_apply, *, reduceIte]) (by simp only [upd_apply, *, reduceIte]) (KExt.refl _) ?_ ?_
      · intro hgo t' s' k' h6 hs' hk'
        simp only [sZ, initT, optI, splice, reduceIte, reduceCtorEq, Nat.reduceEqDiff, Nat.reduceAdd, Nat.reduceSub, Nat.reduceMul, Nat.reduceLeDiff, Nat.reduceLT, Int.reduceLT, Int.reduceLE, Int.reduceToNat, Int.reduceEq, Int.cast_ofNat_Int, h6]
        refine OutQ.eqk (SExt.trans ?_ hs') hk' ?_
        · repeat (first | exact SExt.refl _ | (refine SExt.old ?_ (by first | (simp only [*]; done) | (simp only [upd_none]; assumption) | (simp only [upd_none, *, not_false_eq_true, and_self]; done)) _))
        · simp [acceptF, showsF, togF, hgo]
      · intro hgo t' k' h4 h5 hk'
        simp only [upd_apply, Nat.reduceEqDiff, reduceIte] at h4 h5
        simp only [sZ, initT, optI, splice, reduceIte, reduceCtorEq, Nat.reduceEqDiff, Nat.reduceAdd, Nat.reduceSub, Nat.reduceMul, Nat.reduceLeDiff, Nat.reduceLT, Int.reduceLT, Int.reduceLE, Int.reduceToNat, Int.reduceEq, Int.cast_ofNat_Int, h4, h5, *, -hgo, -hmt, -hlt]
        refine acc2 l hl rfl rfl rfl rfl fun t2 h42 h52 h13 => ?_
        simp only [upd_apply, Nat.reduceEqDiff, reduceIte] at h42 h52
        rw [h4] at h42
        rw [h5] at h52
        have hd : dropsF l ≤ l.length := List.countP_le_length
        simp only [sZ, initT, optI, splice, reduceIte, reduceCtorEq, Nat.reduceEqDiff, Nat.reduceAdd, Nat.reduceSub, Nat.reduceMul, Nat.reduceLeDiff, Nat.reduceLT, Int.reduceLT, Int.reduceLE, Int.reduceToNat, Int.reduceEq, Int.cast_ofNat_Int, h42, h52, h13, *, -hgo, -hmt, -hlt, -hd]
        refine OutQ.eqk (by repeat (first | exact SExt.refl _ | (refine SExt.old ?_ (by first | (simp only [*]; done) | (simp only [upd_none]; assumption) | (simp only [upd_none, *, not_false_eq_true, and_self]; done)) _))) hk' ?_
        rw [wrap64 (by omega) (by omega)]
        simp [acceptF, manyF, showsF, togF, hgo, e1]
  · repeat' (first | (refine callS_quiet (spec15) ?_) | (first | (with_reducible refine newS_in ?_; intro _ hid_; simp only [upd_none] at hid_) | (with_reducible refine newR_in ?_; intro _ hid_ hih_; simp only [upd_none, upd_none', rr_eqs2, and_true] at hid_ hih_) | (with_reducible refine mkmS_in ?_; intro _ hid_; simp only [upd_none] at hid_)) | (with_reducible refine brC_in (fun h_ => ?_) (fun h_ => ?_)) | (with_reducible refine brG_in (fun h_ => ?_) (fun h_ => ?_)) | (with_reducible refine brN_in (fun h_ => ?_) (fun h_ => ?_)) | simp only [sZ, initT, optI, splice, reduceIte, reduceCtorEq, Nat.reduceEqDiff, Nat.reduceAdd, Nat.reduceSub, Nat.reduceMul, Nat.reduceLeDiff, Nat.reduceLT, Int.reduceLT, Int.reduceLE, Int.reduceToNat, Int.reduceEq, Int.cast_ofNat_Int, *, -hmt, -hlt, encMap, encEvid, kindsA])
    · have e1 : ¬ (es.length : Int) = 3 := by simpa using h_
      refine OutQ.eq (by repeat (first | exact SExt.refl _ | (refine SExt.old ?_ (by first | (simp only [*]; done) | (simp only [upd_none]; assumption) | (simp only [upd_none, *, not_false_eq_true, and_self]; done)) _))) ?_
      simp [acceptF, manyF, e1]
    · have e1 : (es.length : Int) = 3 := by simpa using h_
      refine acc1 m l es 88 87 (.int .i64 3) (blankedF m) othersF (k0 := k) hl (by omega) (fun e _ s k => spec23 m e hm hmt) (fun a _ b _ s k => spec22 a b) rfl rfl rfl rfl rfl rfl rfl rfl (by simp only [upd_apply, *, reduceIte]) (by simp only [upd_apply, *, reduceIte]) (by simp only [upd_apply, *, reduceIte]) (KExt.refl _) ?_ ?_
      · intro hgo t' s' k' h6 hs' hk'
        simp only [sZ, initT, optI, splice, reduceIte, reduceCtorEq, Nat.reduceEqDiff, Nat.reduceAdd, Nat.reduceSub, Nat.reduceMul, Nat.reduceLeDiff, Nat.reduceLT, Int.reduceLT, Int.reduceLE, Int.reduceToNat, Int.reduceEq, Int.cast_ofNat_Int, h6]
        refine OutQ.eqk (SExt.trans ?_ hs') hk' ?_
        · repeat (first | exact SExt.refl _ | (refine SExt.old ?_ (by first | (simp only [*]; done) | (simp only [upd_none]; assumption) | (simp only [upd_none, *, not_false_eq_true, and_self]; done)) _))
        · simp [acceptF, showsF, togF, hgo]
      · intro hgo t' k' h4 h5 hk'
        simp only [upd_apply, Nat.reduceEqDiff, reduceIte] at h4 h5
        simp only [sZ, initT, optI, splice, reduceIte, reduceCtorEq, Nat.reduceEqDiff, Nat.reduceAdd, Nat.reduceSub, Nat.reduceMul, Nat.reduceLeDiff, Nat.reduceLT, Int.reduceLT, Int.reduceLE, Int.reduceToNat, Int.reduceEq, Int.cast_ofNat_Int, h4, h5, *, -hgo, -hmt, -hlt]
        refine acc2 l hl rfl rfl rfl rfl fun t2 h42 h52 h13 => ?_
        simp only [upd_apply, Nat.reduceEqDiff, reduceIte] at h42 h52
        rw [h4] at h42
        rw [h5] at h52
        have hd : dropsF l ≤ l.length := List.countP_le_length
        simp only [sZ, initT, optI, splice, reduceIte, reduceCtorEq, Nat.reduceEqDiff, Nat.reduceAdd, Nat.reduceSub, Nat.reduceMul, Nat.reduceLeDiff, Nat.reduceLT, Int.reduceLT, Int.reduceLE, Int.reduceToNat, Int.reduceEq, Int.cast_ofNat_Int, h42, h52, h13, *, -hgo, -hmt, -hlt, -hd]
        refine OutQ.eqk (by repeat (first | exact SExt.refl _ | (refine SExt.old ?_ (by first | (simp only [*]; done) | (simp only [upd_none]; assumption) | (simp only [upd_none, *, not_false_eq_true, and_self]; done)) _))) hk' ?_
        simp [acceptF, manyF, showsF, togF, hgo, e1]
  · repeat' (first | (refine callS_quiet (spec15) ?_) | (first | (with_reducible refine newS_in ?_; intro _ hid_; simp only [upd_none] at hid_) | (with_reducible refine newR_in ?_; intro _ hid_ hih_; simp only [upd_none, upd_none', rr_eqs2, and_true] at hid_ hih_) | (with_reducible refine mkmS_in ?_; intro _ hid_; simp only [upd_none] at hid_)) | (with_reducible refine brC_in (fun h_ => ?_) (fun h_ => ?_)) | (with_reducible refine brG_in (fun h_ => ?_) (fun h_ => ?_)) | (with_reducible refine brN_in (fun h_ => ?_) (fun h_ => ?_)) | simp only [sZ, initT, optI, splice, reduceIte, reduceCtorEq, Nat.reduceEqDiff, Nat.reduceAdd, Nat.reduceSub, Nat.reduceMul, Nat.reduceLeDiff, Nat.reduceLT, Int.reduceLT, Int.reduceLE, Int.reduceToNat, Int.reduceEq, Int.cast_ofNat_Int, *, -hmt, -hlt, encMap, encEvid, kindsA])
    · have e1 : ¬ (es.length : Int) = 3 := by simpa using h_
      refine OutQ.eq (by repeat (first | exact SExt.refl _ | (refine SExt.old ?_ (by first | (simp only [*]; done) | (simp only [upd_none]; assumption) | (simp only [upd_none, *, not_false_eq_true, and_self]; done)) _))) ?_
      simp [acceptF, manyF, e1]
    · have e1 : (es.length : Int) = 3 := by simpa using h_
      refine acc1 m l es 89 87 (.int .i64 3) (movedF m) othersF (k0 := k) hl (by omega) (fun e _ s k => spec24 m e hm) (fun a _ b _ s k => spec22 a b) rfl rfl rfl rfl rfl rfl rfl rfl (by simp only [upd_apply, *, reduceIte]) (by simp only [upd_apply, *, reduceIte]) (by simp only [upd_apply, *, reduceIte]) (KExt.refl _) ?_ ?_
      · intro hgo t' s' k' h6 hs' hk'
        simp only [sZ, initT, optI, splice, reduceIte, reduceCtorEq, Nat.reduceEqDiff, Nat.reduceAdd, Nat.reduceSub, Nat.reduceMul, Nat.reduceLeDiff, Nat.reduceLT, Int.reduceLT, Int.reduceLE, Int.reduceToNat, Int.reduceEq, Int.cast_ofNat_Int, h6]
        refine OutQ.eqk (SExt.trans ?_ hs') hk' ?_
        · repeat (first | exact SExt.refl _ | (refine SExt.old ?_ (by first | (simp only [*]; done) | (simp only [upd_none]; assumption) | (simp only [upd_none, *, not_false_eq_true, and_self]; done)) _))
        · simp [acceptF, showsF, togF, hgo]
      · intro hgo t' k' h4 h5 hk'
        simp only [upd_apply, Nat.reduceEqDiff, reduceIte] at h4 h5
        simp only [sZ, initT, optI, splice, reduceIte, reduceCtorEq, Nat.reduceEqDiff, Nat.reduceAdd, Nat.reduceSub, Nat.reduceMul, Nat.reduceLeDiff, Nat.reduceLT, Int.reduceLT, Int.reduceLE, Int.reduceToNat, Int.reduceEq, Int.cast_ofNat_Int, h4, h5, *, -hgo, -hmt, -hlt]
        refine acc2 l hl rfl rfl rfl rfl fun t2 h42 h52 h13 => ?_
        simp only [upd_apply, Nat.reduceEqDiff, reduceIte] at h42 h52
        rw [h4] at h42
        rw [h5] at h52
        have hd : dropsF l ≤ l.length := List.countP_le_length
        simp only [sZ, initT, optI, splice, reduceIte, reduceCtorEq, Nat.reduceEqDiff, Nat.reduceAdd, Nat.reduceSub, Nat.reduceMul, Nat.reduceLeDiff, Nat.reduceLT, Int.reduceLT, Int.reduceLE, Int.reduceToNat, Int.reduceEq, Int.cast_ofNat_Int, h42, h52, h13, *, -hgo, -hmt, -hlt, -hd]
        refine OutQ.eqk (by repeat (first | exact SExt.refl _ | (refine SExt.old ?_ (by first | (simp only [*]; done) | (simp only [upd_none]; assumption) | (simp only [upd_none, *, not_false_eq_true, and_self]; done)) _))) hk' ?_
        simp [acceptF, manyF, showsF, togF, hgo, e1]
  · repeat' (first | (refine callS_quiet (spec15) ?_) | (first | (with_reducible refine newS_in ?_; intro _ hid_; simp only [upd_none] at hid_) | (with_reducible refine newR_in ?_; intro _ hid_ hih_; simp only [upd_none, upd_none', rr_eqs2, and_true] at hid_ hih_) | (with_reducible refine mkmS_in ?_; intro _ hid_; simp only [upd_none] at hid_)) | (with_reducible refine brC_in (fun h_ => ?_) (fun h_ => ?_)) | (with_reducible refine brG_in (fun h_ => ?_) (fun h_ => ?_)) | (with_reducible refine brN_in (fun h_ => ?_) (fun h_ => ?_)) | simp only [sZ, initT, optI, splice, reduceIte, reduceCtorEq, Nat.reduceEqDiff, Nat.reduceAdd, Nat.reduceSub, Nat.reduceMul, Nat.reduceLeDiff, Nat.reduceLT, Int.reduceLT, Int.reduceLE, Int.reduceToNat, Int.reduceEq, Int.cast_ofNat_Int, *, -hmt, -hlt, encMap, encEvid, kindsA])
    · have e1 : ¬ (es.length : Int) = 4 := by simpa using h_
      refine OutQ.eq (by repeat (first | exact SExt.refl _ | (refine SExt.old ?_ (by first | (simp only [*]; done) | (simp only [upd_none]; assumption) | (simp only [upd_none, *, not_false_eq_true, and_self]; done)) _))) ?_
      simp [acceptF, manyF, e1]
    · have e1 : (es.length : Int) = 4 := by simpa using h_
      refine acc1 m l es 90 91 (.int .i64 4) putF alikeF (k0 := k) hl (by omega) (fun e _ s k => spec25 m e) (fun a ha b _ s k => spec26 a b (hlt a ha)) rfl rfl rfl rfl rfl rfl rfl rfl (by simp only [upd_apply, *, reduceIte]) (by simp only [upd_apply, *, reduceIte]) (by simp only [upd_apply, *, reduceIte]) (KExt.refl _) ?_ ?_
      · intro hgo t' s' k' h6 hs' hk'
        simp only [sZ, initT, optI, splice, reduceIte, reduceCtorEq, Nat.reduceEqDiff, Nat.reduceAdd, Nat.reduceSub, Nat.reduceMul, Nat.reduceLeDiff, Nat.reduceLT, Int.reduceLT, Int.reduceLE, Int.reduceToNat, Int.reduceEq, Int.cast_ofNat_Int, h6]
        refine OutQ.eqk (SExt.trans ?_ hs') hk' ?_
        · repeat (first | exact SExt.refl _ | (refine SExt.old ?_ (by first | (simp only [*]; done) | (simp only [upd_none]; assumption) | (simp only [upd_none, *, not_false_eq_true, and_self]; done)) _))
        · simp [acceptF, showsF, togF, hgo]
      · intro hgo t' k' h4 h5 hk'
        simp only [upd_apply, Nat.reduceEqDiff, reduceIte] at h4 h5
        simp only [sZ, initT, optI, splice, reduceIte, reduceCtorEq, Nat.reduceEqDiff, Nat.reduceAdd, Nat.reduceSub, Nat.reduceMul, Nat.reduceLeDiff, Nat.reduceLT, Int.reduceLT, Int.reduceLE, Int.reduceToNat, Int.reduceEq, Int.cast_ofNat_Int, h4, h5, *, -hgo, -hmt, -hlt]
        refine acc2 l hl rfl rfl rfl rfl fun t2 h42 h52 h13 => ?_
        simp only [upd_apply, Nat.reduceEqDiff, reduceIte] at h42 h52
        rw [h4] at h42
        rw [h5] at h52
        have hd : dropsF l ≤ l.length := List.countP_le_length
        simp only [sZ, initT, optI, splice, reduceIte, reduceCtorEq, Nat.reduceEqDiff, Nat.reduceAdd, Nat.reduceSub, Nat.reduceMul, Nat.reduceLeDiff, Nat.reduceLT, Int.reduceLT, Int.reduceLE, Int.reduceToNat, Int.reduceEq, Int.cast_ofNat_Int, h42, h52, h13, *, -hgo, -hmt, -hlt, -hd]
        refine OutQ.eqk (by repeat (first | exact SExt.refl _ | (refine SExt.old ?_ (by first | (simp only [*]; done) | (simp only [upd_none]; assumption) | (simp only [upd_none, *, not_false_eq_true, and_self]; done)) _))) hk' ?_
        simp [acceptF, manyF, showsF, togF, hgo, e1]
end Go.Pv
