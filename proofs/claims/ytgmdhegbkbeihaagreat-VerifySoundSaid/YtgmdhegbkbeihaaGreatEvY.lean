/- EvidenceHolds: the law returns true. -/
import Derived.Test.YtgmdhegbkbeihaaGreatEvU
import Derived.Test.YtgmdhegbkbeihaaGreatEvW
set_option linter.unusedVariables false
set_option linter.unusedSimpArgs false
set_option maxRecDepth 4000
set_option maxHeartbeats 4000000
namespace Go.Pv
open Go

theorem firstE_len_le (m : List Obj) (l : List Edit) (κ : Int) (i : Nat) : (firstE m l κ i).length ≤ l.length := by
  have : (firstE m l κ i).length ≤ l.length - i := firstS_len (fitsE m κ) l (manyE κ) i (l.length - i)
  omega
theorem findE_len (m : List Obj) (l : List Edit) : (findE m l).edits.length ≤ l.length := by
  rcases findE_cases m l with ⟨h, _⟩ | ⟨κ, h1, h4, hk, _⟩
  · rw [h]; exact Nat.zero_le _
  · obtain ⟨_, i, _, _, _, _, he⟩ := kindE_some hk
    rw [he]
    simp only [List.length_map]
    exact firstE_len_le m l κ i
theorem findF_len (m : List Obj) (l : List Edit) : (findF m l).edits.length ≤ l.length := by
  unfold findF
  split
  · exact findE_len m l
  · exact Nat.zero_le _
theorem spec_holdsLaw (m : List Obj) (l : List Edit) (hm : ∀ o ∈ m, ObjSm o) (hl : ∀ e ∈ l, ObjSm e.obj) {s : Nat → Option Blk} {k : Nat → Tk} : Spec prg 4 [.agg (encMap m), .sl 15 (l.map encEdit) .no] s k (.bool true) s k := by
  refine spec_tr prg_mixed tr_plaw31_EvidenceHolds (Nat.le_of_ble_eq_true rfl) rfl ?_
  unfold pc_plaw31_EvidenceHolds rs_plaw31_EvidenceHolds
  have hfew := fun s k => @spec_few31 m l s k
  simp only [encMap] at hfew
  simp only [sZ, initT, optI, splice, reduceIte, reduceCtorEq, Nat.reduceEqDiff, Nat.reduceAdd, Nat.reduceSub, Nat.reduceMul, Nat.reduceLeDiff, Nat.reduceLT, Int.reduceLT, Int.reduceLE, Int.reduceToNat, Int.reduceEq, Int.cast_ofNat_Int, encMap]
  (with_reducible refine newS_in ?_); intro b2 f2; simp only [upd_none] at f2
  simp only [sZ, initT, optI, splice, reduceIte, reduceCtorEq, Nat.reduceEqDiff, Nat.reduceAdd, Nat.reduceSub, Nat.reduceMul, Nat.reduceLeDiff, Nat.reduceLT, Int.reduceLT, Int.reduceLE, Int.reduceToNat, Int.reduceEq, Int.cast_ofNat_Int, f2]
  refine callS_quiet spec_head31 ?_
  simp only [sZ, initT, optI, splice, reduceIte, reduceCtorEq, Nat.reduceEqDiff, Nat.reduceAdd, Nat.reduceSub, Nat.reduceMul, Nat.reduceLeDiff, Nat.reduceLT, Int.reduceLT, Int.reduceLE, Int.reduceToNat, Int.reduceEq, Int.cast_ofNat_Int, f2]
  refine callS_quiet (hfew _ _) ?_
  cases hfw : few31 m l
  · simp only [sZ, initT, optI, splice, reduceIte, reduceCtorEq, Nat.reduceEqDiff, Nat.reduceAdd, Nat.reduceSub, Nat.reduceMul, Nat.reduceLeDiff, Nat.reduceLT, Int.reduceLT, Int.reduceLE, Int.reduceToNat, Int.reduceEq, Int.cast_ofNat_Int, f2, Bool.not_false]
    refine OutQ.eq (by repeat (first | exact SExt.refl _ | (refine SExt.old ?_ (by first | (simp only [*]; done) | (simp only [upd_none]; assumption) | (simp only [upd_none, *, not_false_eq_true, and_self]; done)) _))) rfl
  simp only [sZ, initT, optI, splice, reduceIte, reduceCtorEq, Nat.reduceEqDiff, Nat.reduceAdd, Nat.reduceSub, Nat.reduceMul, Nat.reduceLeDiff, Nat.reduceLT, Int.reduceLT, Int.reduceLE, Int.reduceToNat, Int.reduceEq, Int.cast_ofNat_Int, f2, Bool.not_true]
  obtain ⟨n1, n2, hmf, hlf⟩ := few31_fit hfw hm hl
  have hF := fun s k => @spec_Find m l hmf (by omega) hlf s k
  have hC := fun s k => @spec_closed m hmf s k
  have hV := fun s k => @spec_change l (by omega) hlf s k
  have hlen := findF_len m l
  have hH := fun s k => @spec_holds m l (findF m l) hmf (by omega) (fun e he => (hlf e he).obj.tags) (by omega) s k
  simp only [encMap] at hF hC hH
  clear hfew hfw hm hl
  refine callS_quiet (hF _ _) ?_
  by_cases h0 : findF m l = ⟨0, []⟩
  · rw [h0]
    simp only [sZ, initT, optI, splice, reduceIte, reduceCtorEq, Nat.reduceEqDiff, Nat.reduceAdd, Nat.reduceSub, Nat.reduceMul, Nat.reduceLeDiff, Nat.reduceLT, Int.reduceLT, Int.reduceLE, Int.reduceToNat, Int.reduceEq, Int.cast_ofNat_Int, f2, encEvid]
    (with_reducible refine newS_in ?_); intro b6 f6; simp only [upd_none] at f6
    simp only [sZ, initT, optI, splice, reduceIte, reduceCtorEq, Nat.reduceEqDiff, Nat.reduceAdd, Nat.reduceSub, Nat.reduceMul, Nat.reduceLeDiff, Nat.reduceLT, Int.reduceLT, Int.reduceLE, Int.reduceToNat, Int.reduceEq, Int.cast_ofNat_Int, f2, f6]
    refine OutQ.eq (by repeat (first | exact SExt.refl _ | (refine SExt.old ?_ (by first | (simp only [*]; done) | (simp only [upd_none]; assumption) | (simp only [upd_none, *, not_false_eq_true, and_self]; done)) _))) rfl
  · have hcc : closedF m = true ∧ changeV l = true := by
      by_cases h : closedF m = true ∧ changeV l = true
      · exact h
      · exact absurd (by unfold findF; rw [if_neg h]) h0
    have hfe : findF m l = findE m l := by unfold findF; rw [if_pos hcc]
    obtain ⟨g1, g2, g3⟩ : (findF m l).kind ≠ 0 ∧ 3 ≤ l.length ∧ holdsF m l (findF m l) = true := by
      rw [hfe]
      rcases find_holds m l with h | h
      · exact absurd (by rw [hfe, h]) h0
      · exact h
    rw [g3] at hH
    clear hfe h0
    generalize findF m l = e at *
    obtain ⟨kd, es⟩ := e
    dsimp only at g1 hlen
    have d0 : decide (kd = 0) = false := decide_eq_false g1
    have d3 : decide ((3 : Int) ≤ (l.length : Int)) = true := decide_eq_true (by omega)
    rw [hcc.1] at hC
    rw [hcc.2] at hV
    simp only [encEvid] at hH
    simp only [sZ, initT, optI, splice, reduceIte, reduceCtorEq, Nat.reduceEqDiff, Nat.reduceAdd, Nat.reduceSub, Nat.reduceMul, Nat.reduceLeDiff, Nat.reduceLT, Int.reduceLT, Int.reduceLE, Int.reduceToNat, Int.reduceEq, Int.cast_ofNat_Int, f2, encEvid]
    (with_reducible refine newS_in ?_); intro b6 f6; simp only [upd_none] at f6
    simp only [sZ, initT, optI, splice, reduceIte, reduceCtorEq, Nat.reduceEqDiff, Nat.reduceAdd, Nat.reduceSub, Nat.reduceMul, Nat.reduceLeDiff, Nat.reduceLT, Int.reduceLT, Int.reduceLE, Int.reduceToNat, Int.reduceEq, Int.cast_ofNat_Int, f2, f6, d0]
    refine callS_quiet (hC _ _) ?_
    simp only [sZ, initT, optI, splice, reduceIte, reduceCtorEq, Nat.reduceEqDiff, Nat.reduceAdd, Nat.reduceSub, Nat.reduceMul, Nat.reduceLeDiff, Nat.reduceLT, Int.reduceLT, Int.reduceLE, Int.reduceToNat, Int.reduceEq, Int.cast_ofNat_Int, f2, f6, d0]
    refine callS_quiet (hV _ _) ?_
    simp only [sZ, initT, optI, splice, reduceIte, reduceCtorEq, Nat.reduceEqDiff, Nat.reduceAdd, Nat.reduceSub, Nat.reduceMul, Nat.reduceLeDiff, Nat.reduceLT, Int.reduceLT, Int.reduceLE, Int.reduceToNat, Int.reduceEq, Int.cast_ofNat_Int, f2, f6, d0, d3]
    refine callS_quiet (hH _ _) ?_
    simp only [sZ, initT, optI, splice, reduceIte, reduceCtorEq, Nat.reduceEqDiff, Nat.reduceAdd, Nat.reduceSub, Nat.reduceMul, Nat.reduceLeDiff, Nat.reduceLT, Int.reduceLT, Int.reduceLE, Int.reduceToNat, Int.reduceEq, Int.cast_ofNat_Int, f2, f6, d0, d3]
    refine OutQ.eq (by repeat (first | exact SExt.refl _ | (refine SExt.old ?_ (by first | (simp only [*]; done) | (simp only [upd_none]; assumption) | (simp only [upd_none, *, not_false_eq_true, and_self]; done)) _))) rfl
end Go.Pv
