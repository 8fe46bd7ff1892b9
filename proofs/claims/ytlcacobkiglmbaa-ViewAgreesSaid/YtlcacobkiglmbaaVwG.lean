/- ViewAgrees: the law. -/
import Derived.Test.YtlcacobkiglmbaaVwF
import Derived.Test.YtlcacobkiglmbaaRowV
set_option linter.unusedVariables false
set_option linter.unusedSimpArgs false
set_option maxRecDepth 4000
set_option maxHeartbeats 4000000
namespace Go.Pv
open Go

theorem spec_agrees1 (m : List Obj) (one two : ByteArray) (hm : MapFit m) (h1 : one.size < 4611686018427387904) (h2 : two.size < 4611686018427387904) {s : Nat → Option Blk} {k : Nat → Tk} : Spec prg 3 [.agg (encMap m), .str one, .str two] s k (.bool true) s k := by
  refine spec_tr prg_mixed tr_plaw19_ViewAgrees (Nat.le_of_ble_eq_true rfl) rfl ?_
  unfold pc_plaw19_ViewAgrees rs_plaw19_ViewAgrees
  have hF := fun s k => @spec_fewV m s k
  have hV := fun s k => @spec_map m hm s k
  have hw : IntKind.i64.wrap ((one.size : Int) + (two.size : Int)) = (one.size : Int) + (two.size : Int) := wrap64 (by omega) (by omega)
  have hfl : (!decide ((40 : Int) < m.length) && m.all fewM) = true → m.length < 1000000 := fun h => by
    simp only [Bool.and_eq_true, Bool.not_eq_true', decide_eq_false_iff_not] at h
    omega
  have hC := fun hl s k => @spec_Common m hm hl s k
  have hD := fun hl s k => @spec_Disputed m hm hl s k
  have hO := fun hl name s k => @spec_Of m hm hl name s k
  have hO2 := fun hl s k => @spec_Of (ofF m one) (ofF_fit hm _) hl two s k
  have hWo := fun name hl hl2 s k => @spec_without (ofF m name) (disF m) hl hl2 s k
  have hS := fun a ha hh s k => @spec_sameM a a ha hh s k
  simp only [decide_true] at hS
  have hle1 : ∀ name, (ofF m name).length ≤ m.length := fun name => wantF_le _ _
  have hle2 : (comF m).length ≤ m.length := wantF_le _ _
  have hle3 : (disF m).length ≤ m.length := by
    unfold disF
    rw [List.length_map]
    exact wantF_le _ _
  have hfC : ∀ o ∈ comF m, o.refs.length < 4611686018427387904 ∧ o.tags.length < 4611686018427387904 := fun o ho => ⟨((ofF_fit hm pCom).obj o ho).refs, ((ofF_fit hm pCom).obj o ho).tags⟩
  have hfO : ∀ o ∈ ofF m one, o.refs.length < 4611686018427387904 ∧ o.tags.length < 4611686018427387904 := fun o ho => ⟨((ofF_fit hm (pOf one)).obj o ho).refs, ((ofF_fit hm (pOf one)).obj o ho).tags⟩
  generalize (!decide ((40 : Int) < m.length) && m.all fewM) = F at *
  cases F
  · simp only [encMap] at hF
    simp only [sZ, initT, optI, splice, reduceIte, reduceCtorEq, Nat.reduceEqDiff, Nat.reduceAdd, Nat.reduceSub, Nat.reduceMul, Nat.reduceLeDiff, Nat.reduceLT, Int.reduceLT, Int.reduceLE, Int.reduceToNat, Int.reduceEq, Int.cast_ofNat_Int, encMap]
    (with_reducible refine newS_in ?_); intro b1 f1; simp only [upd_none] at f1
    simp only [sZ, initT, optI, splice, reduceIte, reduceCtorEq, Nat.reduceEqDiff, Nat.reduceAdd, Nat.reduceSub, Nat.reduceMul, Nat.reduceLeDiff, Nat.reduceLT, Int.reduceLT, Int.reduceLE, Int.reduceToNat, Int.reduceEq, Int.cast_ofNat_Int, f1]
    refine callS_quiet spec_headV ?_
    simp only [sZ, initT, optI, splice, reduceIte, reduceCtorEq, Nat.reduceEqDiff, Nat.reduceAdd, Nat.reduceSub, Nat.reduceMul, Nat.reduceLeDiff, Nat.reduceLT, Int.reduceLT, Int.reduceLE, Int.reduceToNat, Int.reduceEq, Int.cast_ofNat_Int, f1]
    refine callS_quiet (hF _ _) ?_
    simp only [sZ, initT, optI, splice, reduceIte, reduceCtorEq, Nat.reduceEqDiff, Nat.reduceAdd, Nat.reduceSub, Nat.reduceMul, Nat.reduceLeDiff, Nat.reduceLT, Int.reduceLT, Int.reduceLE, Int.reduceToNat, Int.reduceEq, Int.cast_ofNat_Int, f1, Bool.not_false]
    refine OutQ.eq (by repeat (first | exact SExt.refl _ | (refine SExt.old ?_ (by first | (simp only [*]; done) | (simp only [upd_none]; assumption) | (simp only [upd_none, *, not_false_eq_true, and_self]; done)) _))) rfl
  have hl := hfl rfl
  by_cases hsz : (300 : Int) < (one.size : Int) + (two.size : Int)
  · have hd := decide_eq_true hsz
    simp only [encMap] at hF
    simp only [sZ, initT, optI, splice, reduceIte, reduceCtorEq, Nat.reduceEqDiff, Nat.reduceAdd, Nat.reduceSub, Nat.reduceMul, Nat.reduceLeDiff, Nat.reduceLT, Int.reduceLT, Int.reduceLE, Int.reduceToNat, Int.reduceEq, Int.cast_ofNat_Int, encMap]
    (with_reducible refine newS_in ?_); intro b1 f1; simp only [upd_none] at f1
    simp only [sZ, initT, optI, splice, reduceIte, reduceCtorEq, Nat.reduceEqDiff, Nat.reduceAdd, Nat.reduceSub, Nat.reduceMul, Nat.reduceLeDiff, Nat.reduceLT, Int.reduceLT, Int.reduceLE, Int.reduceToNat, Int.reduceEq, Int.cast_ofNat_Int, f1]
    refine callS_quiet spec_headV ?_
    simp only [sZ, initT, optI, splice, reduceIte, reduceCtorEq, Nat.reduceEqDiff, Nat.reduceAdd, Nat.reduceSub, Nat.reduceMul, Nat.reduceLeDiff, Nat.reduceLT, Int.reduceLT, Int.reduceLE, Int.reduceToNat, Int.reduceEq, Int.cast_ofNat_Int, f1]
    refine callS_quiet (hF _ _) ?_
    simp only [sZ, initT, optI, splice, reduceIte, reduceCtorEq, Nat.reduceEqDiff, Nat.reduceAdd, Nat.reduceSub, Nat.reduceMul, Nat.reduceLeDiff, Nat.reduceLT, Int.reduceLT, Int.reduceLE, Int.reduceToNat, Int.reduceEq, Int.cast_ofNat_Int, f1, hw, hd, Bool.not_true]
    refine OutQ.eq (by repeat (first | exact SExt.refl _ | (refine SExt.old ?_ (by first | (simp only [*]; done) | (simp only [upd_none]; assumption) | (simp only [upd_none, *, not_false_eq_true, and_self]; done)) _))) rfl
  have hd := decide_eq_false hsz
  cases hv : mapV m
  · rw [hv] at hV
    simp only [encMap] at hF hV
    simp only [sZ, initT, optI, splice, reduceIte, reduceCtorEq, Nat.reduceEqDiff, Nat.reduceAdd, Nat.reduceSub, Nat.reduceMul, Nat.reduceLeDiff, Nat.reduceLT, Int.reduceLT, Int.reduceLE, Int.reduceToNat, Int.reduceEq, Int.cast_ofNat_Int, encMap]
    (with_reducible refine newS_in ?_); intro b1 f1; simp only [upd_none] at f1
    simp only [sZ, initT, optI, splice, reduceIte, reduceCtorEq, Nat.reduceEqDiff, Nat.reduceAdd, Nat.reduceSub, Nat.reduceMul, Nat.reduceLeDiff, Nat.reduceLT, Int.reduceLT, Int.reduceLE, Int.reduceToNat, Int.reduceEq, Int.cast_ofNat_Int, f1]
    refine callS_quiet spec_headV ?_
    simp only [sZ, initT, optI, splice, reduceIte, reduceCtorEq, Nat.reduceEqDiff, Nat.reduceAdd, Nat.reduceSub, Nat.reduceMul, Nat.reduceLeDiff, Nat.reduceLT, Int.reduceLT, Int.reduceLE, Int.reduceToNat, Int.reduceEq, Int.cast_ofNat_Int, f1]
    refine callS_quiet (hF _ _) ?_
    simp only [sZ, initT, optI, splice, reduceIte, reduceCtorEq, Nat.reduceEqDiff, Nat.reduceAdd, Nat.reduceSub, Nat.reduceMul, Nat.reduceLeDiff, Nat.reduceLT, Int.reduceLT, Int.reduceLE, Int.reduceToNat, Int.reduceEq, Int.cast_ofNat_Int, f1, hw, hd, Bool.not_true]
    refine callS_quiet (hV _ _) ?_
    simp only [sZ, initT, optI, splice, reduceIte, reduceCtorEq, Nat.reduceEqDiff, Nat.reduceAdd, Nat.reduceSub, Nat.reduceMul, Nat.reduceLeDiff, Nat.reduceLT, Int.reduceLT, Int.reduceLE, Int.reduceToNat, Int.reduceEq, Int.cast_ofNat_Int, f1, Bool.not_false]
    refine OutQ.eq (by repeat (first | exact SExt.refl _ | (refine SExt.old ?_ (by first | (simp only [*]; done) | (simp only [upd_none]; assumption) | (simp only [upd_none, *, not_false_eq_true, and_self]; done)) _))) rfl
  rw [hv] at hV
  have eW : ∀ name, woF (ofF m name) (disF m) = comF m := without_com hv
  have eN := of_nil hv
  have eO := of_of hv one two
  have hSC := fun s k => hS (comF m) (by omega) hfC s k
  have hSO := fun s k => hS (ofF m one) (by have := hle1 one; omega) hfO s k
  have hW1 := fun s k => hWo one (by have := hle1 one; omega) (by omega) s k
  have hW2 := fun s k => hWo two (by have := hle1 two; omega) (by omega) s k
  have hON := fun s k => hO hl ⟨#[]⟩ s k
  have hO22 := fun s k => hO2 (by have := hle1 one; omega) s k
  have hOne := fun s k => hO hl one s k
  have hTwo := fun s k => hO hl two s k
  have hCo := fun s k => hC hl s k
  have hDi := fun s k => hD hl s k
  rw [eW] at hW1 hW2
  rw [eN] at hON
  rw [eO] at hO22
  clear hS hWo hO hO2 hC hD hle1 hle2 hle3 hfC hfO hfl eW eN eO hm h1 h2 hsz hv
  have eC : ∃ mc, encMap (comF m) = [.sl 6 mc .no] := ⟨_, rfl⟩
  have e1 : ∃ mc, encMap (ofF m one) = [.sl 6 mc .no] := ⟨_, rfl⟩
  have e2 : ∃ mc, encMap (ofF m two) = [.sl 6 mc .no] := ⟨_, rfl⟩
  have eD : ∃ mc, (disF m).map encStr = mc := ⟨_, rfl⟩
  obtain ⟨mC, eC⟩ := eC
  obtain ⟨m1, e1⟩ := e1
  obtain ⟨m2, e2⟩ := e2
  obtain ⟨mD, eD⟩ := eD
  have eM : encMap m = [.sl 6 (m.map encObj) .no] := rfl
  generalize m.map encObj = mm at *
  by_cases hot : one = two
  · subst hot
    have hd1 : decide (one = one) = true := decide_eq_true rfl
    rw [if_pos rfl] at hO22
    simp only [eM, eC, e1, eD] at hF hV hSC hSO hW1 hW2 hON hO22 hOne hTwo hCo hDi ⊢
    simp only [sZ, initT, optI, splice, reduceIte, reduceCtorEq, Nat.reduceEqDiff, Nat.reduceAdd, Nat.reduceSub, Nat.reduceMul, Nat.reduceLeDiff, Nat.reduceLT, Int.reduceLT, Int.reduceLE, Int.reduceToNat, Int.reduceEq, Int.cast_ofNat_Int]
    (with_reducible refine newS_in ?_); intro b3 f3; simp only [upd_none] at f3
    simp only [sZ, initT, optI, splice, reduceIte, reduceCtorEq, Nat.reduceEqDiff, Nat.reduceAdd, Nat.reduceSub, Nat.reduceMul, Nat.reduceLeDiff, Nat.reduceLT, Int.reduceLT, Int.reduceLE, Int.reduceToNat, Int.reduceEq, Int.cast_ofNat_Int, f3]
    refine callS_quiet spec_headV ?_
    simp only [sZ, initT, optI, splice, reduceIte, reduceCtorEq, Nat.reduceEqDiff, Nat.reduceAdd, Nat.reduceSub, Nat.reduceMul, Nat.reduceLeDiff, Nat.reduceLT, Int.reduceLT, Int.reduceLE, Int.reduceToNat, Int.reduceEq, Int.cast_ofNat_Int, f3]
    refine callS_quiet (hF _ _) ?_
    simp only [sZ, initT, optI, splice, reduceIte, reduceCtorEq, Nat.reduceEqDiff, Nat.reduceAdd, Nat.reduceSub, Nat.reduceMul, Nat.reduceLeDiff, Nat.reduceLT, Int.reduceLT, Int.reduceLE, Int.reduceToNat, Int.reduceEq, Int.cast_ofNat_Int, f3, hw, hd, Bool.not_true]
    refine callS_quiet (hV _ _) ?_
    simp only [sZ, initT, optI, splice, reduceIte, reduceCtorEq, Nat.reduceEqDiff, Nat.reduceAdd, Nat.reduceSub, Nat.reduceMul, Nat.reduceLeDiff, Nat.reduceLT, Int.reduceLT, Int.reduceLE, Int.reduceToNat, Int.reduceEq, Int.cast_ofNat_Int, f3, Bool.not_true]
    refine callS_quiet (hCo _ _) ?_
    simp only [sZ, initT, optI, splice, reduceIte, reduceCtorEq, Nat.reduceEqDiff, Nat.reduceAdd, Nat.reduceSub, Nat.reduceMul, Nat.reduceLeDiff, Nat.reduceLT, Int.reduceLT, Int.reduceLE, Int.reduceToNat, Int.reduceEq, Int.cast_ofNat_Int, f3]
    (with_reducible refine newS_in ?_); intro b8 f8; simp only [upd_none] at f8
    simp only [sZ, initT, optI, splice, reduceIte, reduceCtorEq, Nat.reduceEqDiff, Nat.reduceAdd, Nat.reduceSub, Nat.reduceMul, Nat.reduceLeDiff, Nat.reduceLT, Int.reduceLT, Int.reduceLE, Int.reduceToNat, Int.reduceEq, Int.cast_ofNat_Int, f3, f8]
    refine callS_quiet (hDi _ _) ?_
    simp only [sZ, initT, optI, splice, reduceIte, reduceCtorEq, Nat.reduceEqDiff, Nat.reduceAdd, Nat.reduceSub, Nat.reduceMul, Nat.reduceLeDiff, Nat.reduceLT, Int.reduceLT, Int.reduceLE, Int.reduceToNat, Int.reduceEq, Int.cast_ofNat_Int, f3, f8]
    refine callS_quiet (hOne _ _) ?_
    simp only [sZ, initT, optI, splice, reduceIte, reduceCtorEq, Nat.reduceEqDiff, Nat.reduceAdd, Nat.reduceSub, Nat.reduceMul, Nat.reduceLeDiff, Nat.reduceLT, Int.reduceLT, Int.reduceLE, Int.reduceToNat, Int.reduceEq, Int.cast_ofNat_Int, f3, f8]
    (with_reducible refine newS_in ?_); intro b10 f10; simp only [upd_none] at f10
    simp only [sZ, initT, optI, splice, reduceIte, reduceCtorEq, Nat.reduceEqDiff, Nat.reduceAdd, Nat.reduceSub, Nat.reduceMul, Nat.reduceLeDiff, Nat.reduceLT, Int.reduceLT, Int.reduceLE, Int.reduceToNat, Int.reduceEq, Int.cast_ofNat_Int, f3, f8, f10]
    refine callS_quiet (hOne _ _) ?_
    simp only [sZ, initT, optI, splice, reduceIte, reduceCtorEq, Nat.reduceEqDiff, Nat.reduceAdd, Nat.reduceSub, Nat.reduceMul, Nat.reduceLeDiff, Nat.reduceLT, Int.reduceLT, Int.reduceLE, Int.reduceToNat, Int.reduceEq, Int.cast_ofNat_Int, f3, f8, f10]
    (with_reducible refine newS_in ?_); intro b11 f11; simp only [upd_none] at f11
    simp only [sZ, initT, optI, splice, reduceIte, reduceCtorEq, Nat.reduceEqDiff, Nat.reduceAdd, Nat.reduceSub, Nat.reduceMul, Nat.reduceLeDiff, Nat.reduceLT, Int.reduceLT, Int.reduceLE, Int.reduceToNat, Int.reduceEq, Int.cast_ofNat_Int, f3, f8, f10, f11]
    (with_reducible refine newS_in ?_); intro b12 f12; simp only [upd_none] at f12
    simp only [sZ, initT, optI, splice, reduceIte, reduceCtorEq, Nat.reduceEqDiff, Nat.reduceAdd, Nat.reduceSub, Nat.reduceMul, Nat.reduceLeDiff, Nat.reduceLT, Int.reduceLT, Int.reduceLE, Int.reduceToNat, Int.reduceEq, Int.cast_ofNat_Int, f3, f8, f10, f11, f12, hd1]
    refine callQS_quiet (hW1 _ _) ?_
    simp only [sZ, initT, optI, splice, reduceIte, reduceCtorEq, Nat.reduceEqDiff, Nat.reduceAdd, Nat.reduceSub, Nat.reduceMul, Nat.reduceLeDiff, Nat.reduceLT, Int.reduceLT, Int.reduceLE, Int.reduceToNat, Int.reduceEq, Int.cast_ofNat_Int, f3, f8, f10, f11, f12]
    refine callQS_quiet (hSC _ _) ?_
    simp only [sZ, initT, optI, splice, reduceIte, reduceCtorEq, Nat.reduceEqDiff, Nat.reduceAdd, Nat.reduceSub, Nat.reduceMul, Nat.reduceLeDiff, Nat.reduceLT, Int.reduceLT, Int.reduceLE, Int.reduceToNat, Int.reduceEq, Int.cast_ofNat_Int, f3, f8, f10, f11, f12]
    refine callQS_quiet (hW1 _ _) ?_
    simp only [sZ, initT, optI, splice, reduceIte, reduceCtorEq, Nat.reduceEqDiff, Nat.reduceAdd, Nat.reduceSub, Nat.reduceMul, Nat.reduceLeDiff, Nat.reduceLT, Int.reduceLT, Int.reduceLE, Int.reduceToNat, Int.reduceEq, Int.cast_ofNat_Int, f3, f8, f10, f11, f12]
    refine callQS_quiet (hSC _ _) ?_
    simp only [sZ, initT, optI, splice, reduceIte, reduceCtorEq, Nat.reduceEqDiff, Nat.reduceAdd, Nat.reduceSub, Nat.reduceMul, Nat.reduceLeDiff, Nat.reduceLT, Int.reduceLT, Int.reduceLE, Int.reduceToNat, Int.reduceEq, Int.cast_ofNat_Int, f3, f8, f10, f11, f12]
    refine callQS_quiet (hON _ _) ?_
    simp only [sZ, initT, optI, splice, reduceIte, reduceCtorEq, Nat.reduceEqDiff, Nat.reduceAdd, Nat.reduceSub, Nat.reduceMul, Nat.reduceLeDiff, Nat.reduceLT, Int.reduceLT, Int.reduceLE, Int.reduceToNat, Int.reduceEq, Int.cast_ofNat_Int, f3, f8, f10, f11, f12]
    refine callQS_quiet (hSC _ _) ?_
    simp only [sZ, initT, optI, splice, reduceIte, reduceCtorEq, Nat.reduceEqDiff, Nat.reduceAdd, Nat.reduceSub, Nat.reduceMul, Nat.reduceLeDiff, Nat.reduceLT, Int.reduceLT, Int.reduceLE, Int.reduceToNat, Int.reduceEq, Int.cast_ofNat_Int, f3, f8, f10, f11, f12]
    refine callQS_quiet (hO22 _ _) ?_
    simp only [sZ, initT, optI, splice, reduceIte, reduceCtorEq, Nat.reduceEqDiff, Nat.reduceAdd, Nat.reduceSub, Nat.reduceMul, Nat.reduceLeDiff, Nat.reduceLT, Int.reduceLT, Int.reduceLE, Int.reduceToNat, Int.reduceEq, Int.cast_ofNat_Int, f3, f8, f10, f11, f12]
    refine callQS_quiet (hSO _ _) ?_
    simp only [sZ, initT, optI, splice, reduceIte, reduceCtorEq, Nat.reduceEqDiff, Nat.reduceAdd, Nat.reduceSub, Nat.reduceMul, Nat.reduceLeDiff, Nat.reduceLT, Int.reduceLT, Int.reduceLE, Int.reduceToNat, Int.reduceEq, Int.cast_ofNat_Int, f3, f8, f10, f11, f12]
    refine OutQ.eq (by repeat (first | exact SExt.refl _ | (refine SExt.old ?_ (by first | (simp only [*]; done) | (simp only [upd_none]; assumption) | (simp only [upd_none, *, not_false_eq_true, and_self]; done)) _))) rfl
  · have hd1 : decide (one = two) = false := decide_eq_false hot
    rw [if_neg hot] at hO22
    simp only [eM, eC, e1, e2, eD] at hF hV hSC hSO hW1 hW2 hON hO22 hOne hTwo hCo hDi ⊢
    simp only [sZ, initT, optI, splice, reduceIte, reduceCtorEq, Nat.reduceEqDiff, Nat.reduceAdd, Nat.reduceSub, Nat.reduceMul, Nat.reduceLeDiff, Nat.reduceLT, Int.reduceLT, Int.reduceLE, Int.reduceToNat, Int.reduceEq, Int.cast_ofNat_Int]
    (with_reducible refine newS_in ?_); intro b3 f3; simp only [upd_none] at f3
    simp only [sZ, initT, optI, splice, reduceIte, reduceCtorEq, Nat.reduceEqDiff, Nat.reduceAdd, Nat.reduceSub, Nat.reduceMul, Nat.reduceLeDiff, Nat.reduceLT, Int.reduceLT, Int.reduceLE, Int.reduceToNat, Int.reduceEq, Int.cast_ofNat_Int, f3]
    refine callS_quiet spec_headV ?_
    simp only [sZ, initT, optI, splice, reduceIte, reduceCtorEq, Nat.reduceEqDiff, Nat.reduceAdd, Nat.reduceSub, Nat.reduceMul, Nat.reduceLeDiff, Nat.reduceLT, Int.reduceLT, Int.reduceLE, Int.reduceToNat, Int.reduceEq, Int.cast_ofNat_Int, f3]
    refine callS_quiet (hF _ _) ?_
    simp only [sZ, initT, optI, splice, reduceIte, reduceCtorEq, Nat.reduceEqDiff, Nat.reduceAdd, Nat.reduceSub, Nat.reduceMul, Nat.reduceLeDiff, Nat.reduceLT, Int.reduceLT, Int.reduceLE, Int.reduceToNat, Int.reduceEq, Int.cast_ofNat_Int, f3, hw, hd, Bool.not_true]
    refine callS_quiet (hV _ _) ?_
    simp only [sZ, initT, optI, splice, reduceIte, reduceCtorEq, Nat.reduceEqDiff, Nat.reduceAdd, Nat.reduceSub, Nat.reduceMul, Nat.reduceLeDiff, Nat.reduceLT, Int.reduceLT, Int.reduceLE, Int.reduceToNat, Int.reduceEq, Int.cast_ofNat_Int, f3, Bool.not_true]
    refine callS_quiet (hCo _ _) ?_
    simp only [sZ, initT, optI, splice, reduceIte, reduceCtorEq, Nat.reduceEqDiff, Nat.reduceAdd, Nat.reduceSub, Nat.reduceMul, Nat.reduceLeDiff, Nat.reduceLT, Int.reduceLT, Int.reduceLE, Int.reduceToNat, Int.reduceEq, Int.cast_ofNat_Int, f3]
    (with_reducible refine newS_in ?_); intro b8 f8; simp only [upd_none] at f8
    simp only [sZ, initT, optI, splice, reduceIte, reduceCtorEq, Nat.reduceEqDiff, Nat.reduceAdd, Nat.reduceSub, Nat.reduceMul, Nat.reduceLeDiff, Nat.reduceLT, Int.reduceLT, Int.reduceLE, Int.reduceToNat, Int.reduceEq, Int.cast_ofNat_Int, f3, f8]
    refine callS_quiet (hDi _ _) ?_
    simp only [sZ, initT, optI, splice, reduceIte, reduceCtorEq, Nat.reduceEqDiff, Nat.reduceAdd, Nat.reduceSub, Nat.reduceMul, Nat.reduceLeDiff, Nat.reduceLT, Int.reduceLT, Int.reduceLE, Int.reduceToNat, Int.reduceEq, Int.cast_ofNat_Int, f3, f8]
    refine callS_quiet (hOne _ _) ?_
    simp only [sZ, initT, optI, splice, reduceIte, reduceCtorEq, Nat.reduceEqDiff, Nat.reduceAdd, Nat.reduceSub, Nat.reduceMul, Nat.reduceLeDiff, Nat.reduceLT, Int.reduceLT, Int.reduceLE, Int.reduceToNat, Int.reduceEq, Int.cast_ofNat_Int, f3, f8]
    (with_reducible refine newS_in ?_); intro b10 f10; simp only [upd_none] at f10
    simp only [sZ, initT, optI, splice, reduceIte, reduceCtorEq, Nat.reduceEqDiff, Nat.reduceAdd, Nat.reduceSub, Nat.reduceMul, Nat.reduceLeDiff, Nat.reduceLT, Int.reduceLT, Int.reduceLE, Int.reduceToNat, Int.reduceEq, Int.cast_ofNat_Int, f3, f8, f10]
    refine callS_quiet (hTwo _ _) ?_
    simp only [sZ, initT, optI, splice, reduceIte, reduceCtorEq, Nat.reduceEqDiff, Nat.reduceAdd, Nat.reduceSub, Nat.reduceMul, Nat.reduceLeDiff, Nat.reduceLT, Int.reduceLT, Int.reduceLE, Int.reduceToNat, Int.reduceEq, Int.cast_ofNat_Int, f3, f8, f10]
    (with_reducible refine newS_in ?_); intro b11 f11; simp only [upd_none] at f11
    simp only [sZ, initT, optI, splice, reduceIte, reduceCtorEq, Nat.reduceEqDiff, Nat.reduceAdd, Nat.reduceSub, Nat.reduceMul, Nat.reduceLeDiff, Nat.reduceLT, Int.reduceLT, Int.reduceLE, Int.reduceToNat, Int.reduceEq, Int.cast_ofNat_Int, f3, f8, f10, f11]
    (with_reducible refine newS_in ?_); intro b12 f12; simp only [upd_none] at f12
    simp only [sZ, initT, optI, splice, reduceIte, reduceCtorEq, Nat.reduceEqDiff, Nat.reduceAdd, Nat.reduceSub, Nat.reduceMul, Nat.reduceLeDiff, Nat.reduceLT, Int.reduceLT, Int.reduceLE, Int.reduceToNat, Int.reduceEq, Int.cast_ofNat_Int, f3, f8, f10, f11, f12, hd1]
    refine callQS_quiet (hW1 _ _) ?_
    simp only [sZ, initT, optI, splice, reduceIte, reduceCtorEq, Nat.reduceEqDiff, Nat.reduceAdd, Nat.reduceSub, Nat.reduceMul, Nat.reduceLeDiff, Nat.reduceLT, Int.reduceLT, Int.reduceLE, Int.reduceToNat, Int.reduceEq, Int.cast_ofNat_Int, f3, f8, f10, f11, f12]
    refine callQS_quiet (hSC _ _) ?_
    simp only [sZ, initT, optI, splice, reduceIte, reduceCtorEq, Nat.reduceEqDiff, Nat.reduceAdd, Nat.reduceSub, Nat.reduceMul, Nat.reduceLeDiff, Nat.reduceLT, Int.reduceLT, Int.reduceLE, Int.reduceToNat, Int.reduceEq, Int.cast_ofNat_Int, f3, f8, f10, f11, f12]
    refine callQS_quiet (hW2 _ _) ?_
    simp only [sZ, initT, optI, splice, reduceIte, reduceCtorEq, Nat.reduceEqDiff, Nat.reduceAdd, Nat.reduceSub, Nat.reduceMul, Nat.reduceLeDiff, Nat.reduceLT, Int.reduceLT, Int.reduceLE, Int.reduceToNat, Int.reduceEq, Int.cast_ofNat_Int, f3, f8, f10, f11, f12]
    refine callQS_quiet (hSC _ _) ?_
    simp only [sZ, initT, optI, splice, reduceIte, reduceCtorEq, Nat.reduceEqDiff, Nat.reduceAdd, Nat.reduceSub, Nat.reduceMul, Nat.reduceLeDiff, Nat.reduceLT, Int.reduceLT, Int.reduceLE, Int.reduceToNat, Int.reduceEq, Int.cast_ofNat_Int, f3, f8, f10, f11, f12]
    refine callQS_quiet (hON _ _) ?_
    simp only [sZ, initT, optI, splice, reduceIte, reduceCtorEq, Nat.reduceEqDiff, Nat.reduceAdd, Nat.reduceSub, Nat.reduceMul, Nat.reduceLeDiff, Nat.reduceLT, Int.reduceLT, Int.reduceLE, Int.reduceToNat, Int.reduceEq, Int.cast_ofNat_Int, f3, f8, f10, f11, f12]
    refine callQS_quiet (hSC _ _) ?_
    simp only [sZ, initT, optI, splice, reduceIte, reduceCtorEq, Nat.reduceEqDiff, Nat.reduceAdd, Nat.reduceSub, Nat.reduceMul, Nat.reduceLeDiff, Nat.reduceLT, Int.reduceLT, Int.reduceLE, Int.reduceToNat, Int.reduceEq, Int.cast_ofNat_Int, f3, f8, f10, f11, f12]
    refine callQS_quiet (hO22 _ _) ?_
    simp only [sZ, initT, optI, splice, reduceIte, reduceCtorEq, Nat.reduceEqDiff, Nat.reduceAdd, Nat.reduceSub, Nat.reduceMul, Nat.reduceLeDiff, Nat.reduceLT, Int.reduceLT, Int.reduceLE, Int.reduceToNat, Int.reduceEq, Int.cast_ofNat_Int, f3, f8, f10, f11, f12]
    refine callQS_quiet (hSC _ _) ?_
    simp only [sZ, initT, optI, splice, reduceIte, reduceCtorEq, Nat.reduceEqDiff, Nat.reduceAdd, Nat.reduceSub, Nat.reduceMul, Nat.reduceLeDiff, Nat.reduceLT, Int.reduceLT, Int.reduceLE, Int.reduceToNat, Int.reduceEq, Int.cast_ofNat_Int, f3, f8, f10, f11, f12]
    refine OutQ.eq (by repeat (first | exact SExt.refl _ | (refine SExt.old ?_ (by first | (simp only [*]; done) | (simp only [upd_none]; assumption) | (simp only [upd_none, *, not_false_eq_true, and_self]; done)) _))) rfl
theorem spec_agrees0 (m : List Obj) (one two : ByteArray) (h : (!decide ((40 : Int) < m.length) && m.all fewM) = false) {s : Nat → Option Blk} {k : Nat → Tk} : Spec prg 3 [.agg (encMap m), .str one, .str two] s k (.bool true) s k := by
  refine spec_tr prg_mixed tr_plaw19_ViewAgrees (Nat.le_of_ble_eq_true rfl) rfl ?_
  unfold pc_plaw19_ViewAgrees rs_plaw19_ViewAgrees
  have hF := fun s k => @spec_fewV m s k
  rw [h] at hF
  simp only [encMap] at hF
  simp only [sZ, initT, optI, splice, reduceIte, reduceCtorEq, Nat.reduceEqDiff, Nat.reduceAdd, Nat.reduceSub, Nat.reduceMul, Nat.reduceLeDiff, Nat.reduceLT, Int.reduceLT, Int.reduceLE, Int.reduceToNat, Int.reduceEq, Int.cast_ofNat_Int, encMap]
  (with_reducible refine newS_in ?_); intro b1 f1; simp only [upd_none] at f1
  simp only [sZ, initT, optI, splice, reduceIte, reduceCtorEq, Nat.reduceEqDiff, Nat.reduceAdd, Nat.reduceSub, Nat.reduceMul, Nat.reduceLeDiff, Nat.reduceLT, Int.reduceLT, Int.reduceLE, Int.reduceToNat, Int.reduceEq, Int.cast_ofNat_Int, f1]
  refine callS_quiet spec_headV ?_
  simp only [sZ, initT, optI, splice, reduceIte, reduceCtorEq, Nat.reduceEqDiff, Nat.reduceAdd, Nat.reduceSub, Nat.reduceMul, Nat.reduceLeDiff, Nat.reduceLT, Int.reduceLT, Int.reduceLE, Int.reduceToNat, Int.reduceEq, Int.cast_ofNat_Int, f1]
  refine callS_quiet (hF _ _) ?_
  simp only [sZ, initT, optI, splice, reduceIte, reduceCtorEq, Nat.reduceEqDiff, Nat.reduceAdd, Nat.reduceSub, Nat.reduceMul, Nat.reduceLeDiff, Nat.reduceLT, Int.reduceLT, Int.reduceLE, Int.reduceToNat, Int.reduceEq, Int.cast_ofNat_Int, f1, Bool.not_false]
  refine OutQ.eq (by repeat (first | exact SExt.refl _ | (refine SExt.old ?_ (by first | (simp only [*]; done) | (simp only [upd_none]; assumption) | (simp only [upd_none, *, not_false_eq_true, and_self]; done)) _))) rfl
theorem fewV_fit {m : List Obj} (h : (!decide ((40 : Int) < m.length) && m.all fewM) = true) (hm : ∀ o ∈ m, ObjSm o) : MapFit m := by
  simp only [Bool.and_eq_true, Bool.not_eq_true', decide_eq_false_iff_not, List.all_eq_true] at h
  exact ⟨by omega, fun o ho => fit_M (h.2 o ho) (hm o ho)⟩
theorem spec_agreesLaw (m : List Obj) (one two : ByteArray) (hm : ∀ o ∈ m, ObjSm o) (h1 : one.size ≤ reachBytes) (h2 : two.size ≤ reachBytes) {s : Nat → Option Blk} {k : Nat → Tk} : Spec prg 3 [.agg (encMap m), .str one, .str two] s k (.bool true) s k := by
  rw [reach_eq] at h1 h2
  cases h : (!decide ((40 : Int) < m.length) && m.all fewM)
  · exact spec_agrees0 m one two h
  · exact spec_agrees1 m one two (fewV_fit h hm) (by omega) (by omega)
end Go.Pv
