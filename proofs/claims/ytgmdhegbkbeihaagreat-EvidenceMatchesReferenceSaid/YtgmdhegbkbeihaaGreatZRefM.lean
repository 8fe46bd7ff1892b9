/- The reference's evidence: what holds, what is found. -/
import Derived.Test.YtgmdhegbkbeihaaGreatZRefL
set_option linter.unusedVariables false
set_option linter.unusedSimpArgs false
set_option maxRecDepth 4000
set_option maxHeartbeats 4000000
namespace Go.Pv
open Go

def dropB (l : List Edit) (κ : Int) : Bool := !(decide (κ = 1) && !decide (l.length < 2 * dropsF l))
theorem spec_holdsr {m : List Obj} {l : List Edit} {κ : Int} (E : Ev m l κ) (f : List Nat) (hT : Taken m l κ f) (hb : ∀ i ∈ f, i < l.length) (hfl : f.length < 70000) {s : Nat → Option Blk} {k : Nat → Tk} :
    Spec prg 40 [.agg (encMap m), .sl 15 (l.map encEdit) .no, .agg [.int .i64 κ, .sl 1 (f.map encNat) .no]] s k (.bool (decide (f.length = manyE κ) && dropB l κ)) s k := by
  refine spec_tr prg_mixed tr_pref31_Holds (Nat.le_of_ble_eq_true rfl) rfl ?_
  unfold pc_pref31_Holds rs_pref31_Holds
  have hsh := fun e s k => E.show_ e s k
  have hE4 : encMap m = [.sl 6 (m.map encObj) .no] := rfl
  have hlen := E.hl
  simp only [hE4] at hsh
  have k1 : decide (κ < 1) = false := decide_eq_false (by have := E.h1; omega)
  have k2 : decide (4 < κ) = false := decide_eq_false (by have := E.h4; omega)
  simp only [sZ, initT, optI, splice, reduceIte, reduceCtorEq, Nat.reduceEqDiff, Nat.reduceAdd, Nat.reduceSub, Nat.reduceMul, Nat.reduceLeDiff, Nat.reduceLT, Int.reduceLT, Int.reduceLE, Int.reduceToNat, Int.reduceEq, Int.cast_ofNat_Int, hE4]
  (with_reducible refine newS_in ?_); intro b3 f3; simp only [upd_none] at f3
  simp only [sZ, initT, optI, splice, reduceIte, reduceCtorEq, Nat.reduceEqDiff, Nat.reduceAdd, Nat.reduceSub, Nat.reduceMul, Nat.reduceLeDiff, Nat.reduceLT, Int.reduceLT, Int.reduceLE, Int.reduceToNat, Int.reduceEq, Int.cast_ofNat_Int, f3]
  (with_reducible refine newS_in ?_); intro b5 f5; simp only [upd_none] at f5
  simp only [sZ, initT, optI, splice, reduceIte, reduceCtorEq, Nat.reduceEqDiff, Nat.reduceAdd, Nat.reduceSub, Nat.reduceMul, Nat.reduceLeDiff, Nat.reduceLT, Int.reduceLT, Int.reduceLE, Int.reduceToNat, Int.reduceEq, Int.cast_ofNat_Int, f3, f5, k1, k2]
  refine callQS_quiet (spec_manyr κ) ?_
  by_cases c : f.length = manyE κ
  case neg =>
    have d : (!decide (((f.length : Nat) : Int) = (manyE κ : Int))) = true := by rw [decide_eq_false (by omega)]; rfl
    rw [decide_eq_false c, Bool.false_and]
    simp only [sZ, initT, optI, splice, reduceIte, reduceCtorEq, Nat.reduceEqDiff, Nat.reduceAdd, Nat.reduceSub, Nat.reduceMul, Nat.reduceLeDiff, Nat.reduceLT, Int.reduceLT, Int.reduceLE, Int.reduceToNat, Int.reduceEq, Int.cast_ofNat_Int, f3, f5, d]
    refine OutQ.eq (by repeat (first | exact SExt.refl _ | (refine SExt.old ?_ (by first | (simp only [*]; done) | (simp only [upd_none]; assumption) | (simp only [upd_none, *, not_false_eq_true, and_self]; done)) _))) rfl
  have d : (!decide (((f.length : Nat) : Int) = (manyE κ : Int))) = false := by rw [decide_eq_true (by omega)]; rfl
  rw [decide_eq_true c, Bool.true_and]
  have hmain : ∀ t : Nat → A, t 1 = .sl 15 (l.map encEdit) .no → t 3 = .ptr b3 0 → t 5 = .ptr b5 0 → t 7 = .int .i64 0 → ∀ Q : PX → St → Prop, (∀ t', Q (.exit 0) ⟨t', upd (upd s b3 (some (.cells [.sl 6 (m.map encObj) .no]))) b5 (some (.cells [.int .i64 κ, .sl 1 (f.map encNat) .no])), k⟩) →
      pwp prg (.loop (.seq (.seq (.reg [⟨(.some 37), .none, (.mv (.t 7))⟩, ⟨(.some 38), .none, (.fld 1 (.t 5))⟩, ⟨(.some 39), .none, (.load .none (.t 38))⟩, ⟨(.some 40), .none, (.len false (.t 39))⟩, ⟨(.some 41), .none, (.bin .lss (.t 37) (.t 40))⟩] false .none) (.cond (.t 41) .skip (.exit 0))) (.seq (.block 1 (.seq (.reg [⟨(.some 44), .none, (.fld 1 (.t 5))⟩, ⟨(.some 45), .none, (.load .none (.t 44))⟩, ⟨(.some 46), .none, (.mv (.t 7))⟩, ⟨(.some 47), .none, (.idx 1 (.t 45) (.t 46))⟩, ⟨(.some 48), .none, (.load .none (.t 47))⟩, ⟨(.some 8), .none, (.mv (.t 48))⟩] false .none) (.seq (.seq (.reg [⟨(.some 49), .none, (.mv (.t 8))⟩, ⟨(.some 50), .none, (.bin .lss (.t 49) (.c (.int .i64 0)))⟩, ⟨(.some 51), .none, (.mv (.t 50))⟩, ⟨(.some 52), (.some (51, false)), (.mv (.t 8))⟩, ⟨(.some 53), (.some (51, false)), (.mv (.t 1))⟩, ⟨(.some 54), (.some (51, false)), (.len false (.t 53))⟩, ⟨(.some 55), (.some (51, false)), (.bin .geq (.t 52) (.t 54))⟩, ⟨(.some 56), .none, (.pick (.t 51) (.c (.bool true)) (.t 55))⟩, ⟨(.some 57), .none, (.mv (.t 56))⟩, ⟨(.some 58), (.some (57, false)), (.mv (.t 7))⟩, ⟨(.some 59), (.some (57, false)), (.bin .gtr (.t 58) (.c (.int .i64 0)))⟩, ⟨(.some 60), (.some (57, false)), (.mv (.t 59))⟩, ⟨(.some 61), (.some (60, true)), (.mv (.t 8))⟩, ⟨(.some 62), (.some (60, true)), (.fld 1 (.t 5))⟩, ⟨(.some 63), (.some (60, true)), (.load .none (.t 62))⟩, ⟨(.some 64), (.some (60, true)), (.mv (.t 7))⟩, ⟨(.some 65), (.some (60, true)), (.bin .sub (.t 64) (.c (.int .i64 1)))⟩, ⟨(.some 66), (.some (60, true)), (.idx 1 (.t 63) (.t 65))⟩, ⟨(.some 67), (.some (60, true)), (.load .none (.t 66))⟩, ⟨(.some 68), (.some (60, true)), (.bin .leq (.t 61) (.t 67))⟩, ⟨(.some 69), (.some (57, false)), (.pick (.t 60) (.t 68) (.c (.bool false)))⟩, ⟨(.some 70), .none, (.pick (.t 57) (.c (.bool true)) (.t 69))⟩, ⟨(.some 71), .none, (.mv (.t 70))⟩, ⟨(.some 72), (.some (71, false)), (.load (.some 1) (.t 3))⟩, ⟨(.some 73), (.some (71, false)), (.mv (.t 1))⟩, ⟨(.some 74), (.some (71, false)), (.mv (.t 8))⟩, ⟨(.some 75), (.some (71, false)), (.idx 15 (.t 73) (.t 74))⟩, ⟨(.some 76), (.some (71, false)), (.load (.some 15) (.t 75))⟩, ⟨(.some 77), (.some (71, false)), (.fld 0 (.t 5))⟩, ⟨(.some 78), (.some (71, false)), (.load .none (.t 77))⟩, ⟨(.some 79), (.some (71, false)), (.call true (.c (.fn 73 [])) [(.t 72), (.t 76), (.t 78)])⟩, ⟨(.some 80), (.some (71, false)), (.un .not (.t 79))⟩, ⟨(.some 81), .none, (.pick (.t 71) (.c (.bool true)) (.t 80))⟩] true .none) (.cond (.t 81) (.seq (.reg [⟨(.some 6), .none, (.mv (.c (.bool false)))⟩] false .none) .ret) .skip)) (.seq (.reg [⟨(.some 9), .none, (.mv (.c (.int .i64 0)))⟩] false .none) (.block 2 (.loop (.seq (.seq (.reg [⟨(.some 82), .none, (.mv (.t 9))⟩, ⟨(.some 83), .none, (.mv (.t 7))⟩, ⟨(.some 84), .none, (.bin .lss (.t 82) (.t 83))⟩] false .none) (.cond (.t 84) .skip (.exit 2))) (.seq (.block 3 (.seq (.reg [⟨(.some 87), .none, (.mv (.t 1))⟩, ⟨(.some 88), .none, (.fld 1 (.t 5))⟩, ⟨(.some 89), .none, (.load .none (.t 88))⟩, ⟨(.some 90), .none, (.mv (.t 9))⟩, ⟨(.some 91), .none, (.idx 1 (.t 89) (.t 90))⟩, ⟨(.some 92), .none, (.load .none (.t 91))⟩, ⟨(.some 93), .none, (.idx 15 (.t 87) (.t 92))⟩, ⟨(.some 94), .none, (.load (.some 15) (.t 93))⟩, ⟨(.some 95), .none, (.mv (.t 1))⟩, ⟨(.some 96), .none, (.mv (.t 8))⟩, ⟨(.some 97), .none, (.idx 15 (.t 95) (.t 96))⟩, ⟨(.some 98), .none, (.load (.some 15) (.t 97))⟩, ⟨(.some 99), .none, (.fld 0 (.t 5))⟩, ⟨(.some 100), .none, (.load .none (.t 99))⟩, ⟨(.some 101), .none, (.call true (.c (.fn 74 [])) [(.t 94), (.t 98), (.t 100)])⟩, ⟨(.some 102), .none, (.un .not (.t 101))⟩] true .none) (.cond (.t 102) (.seq (.reg [⟨(.some 6), .none, (.mv (.c (.bool false)))⟩] false .none) .ret) .skip))) (.reg [⟨(.some 85), .none, (.mv (.t 9))⟩, ⟨(.some 86), .none, (.bin .add (.t 85) (.c (.int .i64 1)))⟩, ⟨(.some 9), .none, (.mv (.t 86))⟩] false .none))))))))) (.reg [⟨(.some 42), .none, (.mv (.t 7))⟩, ⟨(.some 43), .none, (.bin .add (.t 42) (.c (.int .i64 1)))⟩, ⟨(.some 7), .none, (.mv (.t 43))⟩] false .none)))) Q ⟨t, upd (upd s b3 (some (.cells [.sl 6 (m.map encObj) .no]))) b5 (some (.cells [.int .i64 κ, .sl 1 (f.map encNat) .no])), k⟩ := by
    intro t h1 h3 h5 h7 Q hQ
    refine loop_L (α := Unit) f.length (fun j _ => [(1, .sl 15 (l.map encEdit) .no), (3, .ptr b3 0), (5, .ptr b5 0), (7, .int .i64 j)]) (fun _ _ => upd (upd s b3 (some (.cells [.sl 6 (m.map encObj) .no]))) b5 (some (.cells [.int .i64 κ, .sl 1 (f.map encNat) .no]))) (fun _ _ => k) (fun _ _ => True) () (SExt.refl _) rfl
      (by simp only [TabLe_cons, TabLe_nil, h1, h3, h5, h7]; exact ⟨A.le_refl _, A.le_refl _, A.le_refl _, A.le_refl _, trivial⟩) trivial ?_
    rintro j ⟨⟩ hj -
    try dsimp only
    by_cases hlt : j < f.length
    case neg =>
      have e1 : decide ((j : Int) < ((f.length : Nat) : Int)) = false := decide_eq_false (by omega)
      simp only [sZ, initT, optI, splice, reduceIte, reduceCtorEq, Nat.reduceEqDiff, Nat.reduceAdd, Nat.reduceSub, Nat.reduceMul, Nat.reduceLeDiff, Nat.reduceLT, Int.reduceLT, Int.reduceLE, Int.reduceToNat, Int.reduceEq, Int.cast_ofNat_Int, f3, f5, e1]
      exact hQ _
    have e1 : decide ((j : Int) < ((f.length : Nat) : Int)) = true := decide_eq_true (by omega)
    have hgj := nat_get f hlt
    have hjl : f[j] < l.length := hb _ (List.getElem_mem hlt)
    have hg : (l.map encEdit)[f[j]]? = some (encEdit l[f[j]]) := editE.get hjl
    have pj : (0 : Int) ≤ ((f[j] : Nat) : Int) := by omega
    have e2 : decide (((f[j] : Nat) : Int) < 0) = false := decide_eq_false (by omega)
    have e3 : decide ((l.length : Int) ≤ ((f[j] : Nat) : Int)) = false := decide_eq_false (by omega)
    have hw := wrap_succ hlt (by omega)
    have hsj : showE m κ l[f[j]] = true := by
      have := hT.show_ f[j] (List.getElem_mem hlt)
      rwa [atE_get hjl] at this
    have hin : ∀ t' : Nat → A, t' 1 = .sl 15 (l.map encEdit) .no → t' 3 = .ptr b3 0 → t' 5 = .ptr b5 0 → t' 7 = .int .i64 j → t' 8 = .int .i64 (f[j] : Nat) → t' 9 = .int .i64 0 → ∀ Q : PX → St → Prop,
        (∀ t2, t2 1 = .sl 15 (l.map encEdit) .no → t2 3 = .ptr b3 0 → t2 5 = .ptr b5 0 → t2 7 = .int .i64 j → Q (.exit 2) ⟨t2, upd (upd s b3 (some (.cells [.sl 6 (m.map encObj) .no]))) b5 (some (.cells [.int .i64 κ, .sl 1 (f.map encNat) .no])), k⟩) →
        pwp prg (.loop (.seq (.seq (.reg [⟨(.some 82), .none, (.mv (.t 9))⟩, ⟨(.some 83), .none, (.mv (.t 7))⟩, ⟨(.some 84), .none, (.bin .lss (.t 82) (.t 83))⟩] false .none) (.cond (.t 84) .skip (.exit 2))) (.seq (.block 3 (.seq (.reg [⟨(.some 87), .none, (.mv (.t 1))⟩, ⟨(.some 88), .none, (.fld 1 (.t 5))⟩, ⟨(.some 89), .none, (.load .none (.t 88))⟩, ⟨(.some 90), .none, (.mv (.t 9))⟩, ⟨(.some 91), .none, (.idx 1 (.t 89) (.t 90))⟩, ⟨(.some 92), .none, (.load .none (.t 91))⟩, ⟨(.some 93), .none, (.idx 15 (.t 87) (.t 92))⟩, ⟨(.some 94), .none, (.load (.some 15) (.t 93))⟩, ⟨(.some 95), .none, (.mv (.t 1))⟩, ⟨(.some 96), .none, (.mv (.t 8))⟩, ⟨(.some 97), .none, (.idx 15 (.t 95) (.t 96))⟩, ⟨(.some 98), .none, (.load (.some 15) (.t 97))⟩, ⟨(.some 99), .none, (.fld 0 (.t 5))⟩, ⟨(.some 100), .none, (.load .none (.t 99))⟩, ⟨(.some 101), .none, (.call true (.c (.fn 74 [])) [(.t 94), (.t 98), (.t 100)])⟩, ⟨(.some 102), .none, (.un .not (.t 101))⟩] true .none) (.cond (.t 102) (.seq (.reg [⟨(.some 6), .none, (.mv (.c (.bool false)))⟩] false .none) .ret) .skip))) (.reg [⟨(.some 85), .none, (.mv (.t 9))⟩, ⟨(.some 86), .none, (.bin .add (.t 85) (.c (.int .i64 1)))⟩, ⟨(.some 9), .none, (.mv (.t 86))⟩] false .none)))) Q ⟨t', upd (upd s b3 (some (.cells [.sl 6 (m.map encObj) .no]))) b5 (some (.cells [.int .i64 κ, .sl 1 (f.map encNat) .no])), k⟩ := by
      intro t' h1 h3 h5 h7 h8 h9 Q hQ
      refine loop_L (α := Unit) j (fun q _ => [(1, .sl 15 (l.map encEdit) .no), (3, .ptr b3 0), (5, .ptr b5 0), (7, .int .i64 j), (8, .int .i64 (f[j] : Nat)), (9, .int .i64 q)]) (fun _ _ => upd (upd s b3 (some (.cells [.sl 6 (m.map encObj) .no]))) b5 (some (.cells [.int .i64 κ, .sl 1 (f.map encNat) .no]))) (fun _ _ => k) (fun _ _ => True) () (SExt.refl _) rfl
        (by simp only [TabLe_cons, TabLe_nil, h1, h3, h5, h7, h8, h9]; exact ⟨A.le_refl _, A.le_refl _, A.le_refl _, A.le_refl _, A.le_refl _, A.le_refl _, trivial⟩) trivial ?_
      rintro q ⟨⟩ hq -
      try dsimp only
      by_cases hql : q < j
      case neg =>
        have e4 : decide ((q : Int) < (j : Int)) = false := decide_eq_false (by omega)
        simp only [sZ, initT, optI, splice, reduceIte, reduceCtorEq, Nat.reduceEqDiff, Nat.reduceAdd, Nat.reduceSub, Nat.reduceMul, Nat.reduceLeDiff, Nat.reduceLT, Int.reduceLT, Int.reduceLE, Int.reduceToNat, Int.reduceEq, Int.cast_ofNat_Int, e4]
        exact hQ _ rfl rfl rfl rfl
      have e4 : decide ((q : Int) < (j : Int)) = true := decide_eq_true (by omega)
      have hqf : q < f.length := by omega
      have hgq := nat_get f hqf
      have hql2 : f[q] < l.length := hb _ (List.getElem_mem hqf)
      have hg2 : (l.map encEdit)[f[q]]? = some (encEdit l[f[q]]) := editE.get hql2
      have pq : (0 : Int) ≤ ((f[q] : Nat) : Int) := by omega
      have hsq : showE m κ l[f[q]] = true := by
        have := hT.show_ f[q] (List.getElem_mem hqf)
        rwa [atE_get hql2] at this
      have htg : togE κ l[f[q]] l[f[j]] = true := by
        have := pairwise_get hT.tog hqf hlt hql
        rwa [atE_get hql2, atE_get hjl] at this
      have hfit := fun s k => E.fit (List.getElem_mem hql2) (List.getElem_mem hjl) hsq hsj s k
      rw [htg] at hfit
      have hwq : IntKind.i64.wrap ((q : Int) + 1) = ((q + 1 : Nat) : Int) := wrap_succ hql (by omega)
      simp only [sZ, initT, optI, splice, reduceIte, reduceCtorEq, Nat.reduceEqDiff, Nat.reduceAdd, Nat.reduceSub, Nat.reduceMul, Nat.reduceLeDiff, Nat.reduceLT, Int.reduceLT, Int.reduceLE, Int.reduceToNat, Int.reduceEq, Int.cast_ofNat_Int, e4, f3, f5, hgq, hg2, hg, pq, pj, get_nat, Int.toNat_natCast, len_encEdit, wh_encEdit, st_encEdit]
      refine callQS_quiet (hfit _ _) ?_
      simp only [sZ, initT, optI, splice, reduceIte, reduceCtorEq, Nat.reduceEqDiff, Nat.reduceAdd, Nat.reduceSub, Nat.reduceMul, Nat.reduceLeDiff, Nat.reduceLT, Int.reduceLT, Int.reduceLE, Int.reduceToNat, Int.reduceEq, Int.cast_ofNat_Int, f3, f5, Bool.not_true]
      simp only [sZ, initT, optI, splice, reduceIte, reduceCtorEq, Nat.reduceEqDiff, Nat.reduceAdd, Nat.reduceSub, Nat.reduceMul, Nat.reduceLeDiff, Nat.reduceLT, Int.reduceLT, Int.reduceLE, Int.reduceToNat, Int.reduceEq, Int.cast_ofNat_Int, hwq]
      exact next_L hql () (SExt.refl _) rfl (by (try simp only [TabLe_cons, TabLe_nil, tab_cons, tab_nil, upd_apply, Nat.reduceEqDiff, reduceIte, and_true]); repeat' (first | exact trivial | exact A.le_refl _ | exact le_strip_no _ _ _ | exact A.le_no _ _ _ | exact A.le_empty _ _ _ | refine And.intro ?_ ?_)) trivial
    simp only [sZ, initT, optI, splice, reduceIte, reduceCtorEq, Nat.reduceEqDiff, Nat.reduceAdd, Nat.reduceSub, Nat.reduceMul, Nat.reduceLeDiff, Nat.reduceLT, Int.reduceLT, Int.reduceLE, Int.reduceToNat, Int.reduceEq, Int.cast_ofNat_Int, f3, f5, e1, hgj, get_nat, e2, e3]
    by_cases hj0 : j = 0
    · subst hj0
      have e5 : decide ((0 : Int) < ((0 : Nat) : Int)) = false := rfl
      simp only [sZ, initT, optI, splice, reduceIte, reduceCtorEq, Nat.reduceEqDiff, Nat.reduceAdd, Nat.reduceSub, Nat.reduceMul, Nat.reduceLeDiff, Nat.reduceLT, Int.reduceLT, Int.reduceLE, Int.reduceToNat, Int.reduceEq, Int.cast_ofNat_Int, f3, f5, e5, hg, pj, Int.toNat_natCast, len_encEdit, wh_encEdit, st_encEdit]
      refine callQS_quiet (hsh _ _ _) ?_
      rw [hsj]
      simp only [sZ, initT, optI, splice, reduceIte, reduceCtorEq, Nat.reduceEqDiff, Nat.reduceAdd, Nat.reduceSub, Nat.reduceMul, Nat.reduceLeDiff, Nat.reduceLT, Int.reduceLT, Int.reduceLE, Int.reduceToNat, Int.reduceEq, Int.cast_ofNat_Int, f3, f5, Bool.not_true]
      refine hin _ rfl rfl rfl rfl rfl rfl _ ?_
      intro t2 g1 g3 g5 g7
      simp only [sZ, initT, optI, splice, reduceIte, reduceCtorEq, Nat.reduceEqDiff, Nat.reduceAdd, Nat.reduceSub, Nat.reduceMul, Nat.reduceLeDiff, Nat.reduceLT, Int.reduceLT, Int.reduceLE, Int.reduceToNat, Int.reduceEq, Int.cast_ofNat_Int, g1, g3, g5, g7, hw]
      refine next_L hlt () (SExt.refl _) rfl ?_ trivial
      simp only [TabLe_cons, TabLe_nil, upd_apply, Nat.reduceEqDiff, reduceIte, g1, g3, g5]
      exact ⟨A.le_refl _, A.le_refl _, A.le_refl _, A.le_refl _, trivial⟩
    · have e5 : decide ((0 : Int) < (j : Int)) = true := decide_eq_true (by omega)
      have hwj : IntKind.i64.wrap ((j : Int) - 1) = ((j - 1 : Nat) : Int) := by rw [wrap64 (by omega) (by omega)]; omega
      have hj1 : j - 1 < f.length := by omega
      have hgp := nat_get f hj1
      have hlt2 : f[j - 1] < f[j] := pairwise_get hT.inc hj1 hlt (by omega)
      have e6 : decide (((f[j] : Nat) : Int) ≤ ((f[j - 1] : Nat) : Int)) = false := decide_eq_false (by omega)
      have pj1 : (0 : Int) ≤ ((j - 1 : Nat) : Int) := by omega
      simp only [sZ, initT, optI, splice, reduceIte, reduceCtorEq, Nat.reduceEqDiff, Nat.reduceAdd, Nat.reduceSub, Nat.reduceMul, Nat.reduceLeDiff, Nat.reduceLT, Int.reduceLT, Int.reduceLE, Int.reduceToNat, Int.reduceEq, Int.cast_ofNat_Int, f3, f5, e5, hwj, hgp, pj1, get_nat, e6, hg, pj, Int.toNat_natCast, len_encEdit, wh_encEdit, st_encEdit]
      refine callQS_quiet (hsh _ _ _) ?_
      rw [hsj]
      simp only [sZ, initT, optI, splice, reduceIte, reduceCtorEq, Nat.reduceEqDiff, Nat.reduceAdd, Nat.reduceSub, Nat.reduceMul, Nat.reduceLeDiff, Nat.reduceLT, Int.reduceLT, Int.reduceLE, Int.reduceToNat, Int.reduceEq, Int.cast_ofNat_Int, f3, f5, Bool.not_true]
      refine hin _ rfl rfl rfl rfl rfl rfl _ ?_
      intro t2 g1 g3 g5 g7
      simp only [sZ, initT, optI, splice, reduceIte, reduceCtorEq, Nat.reduceEqDiff, Nat.reduceAdd, Nat.reduceSub, Nat.reduceMul, Nat.reduceLeDiff, Nat.reduceLT, Int.reduceLT, Int.reduceLE, Int.reduceToNat, Int.reduceEq, Int.cast_ofNat_Int, g1, g3, g5, g7, hw]
      refine next_L hlt () (SExt.refl _) rfl ?_ trivial
      simp only [TabLe_cons, TabLe_nil, upd_apply, Nat.reduceEqDiff, reduceIte, g1, g3, g5]
      exact ⟨A.le_refl _, A.le_refl _, A.le_refl _, A.le_refl _, trivial⟩
  by_cases c1 : κ = 1
  · have d1 := decide_eq_true c1
    cases hdr : decide (l.length < 2 * dropsF l)
    · have hB : dropB l κ = false := by unfold dropB; rw [d1, hdr]; rfl
      rw [hB]
      simp only [sZ, initT, optI, splice, reduceIte, reduceCtorEq, Nat.reduceEqDiff, Nat.reduceAdd, Nat.reduceSub, Nat.reduceMul, Nat.reduceLeDiff, Nat.reduceLT, Int.reduceLT, Int.reduceLE, Int.reduceToNat, Int.reduceEq, Int.cast_ofNat_Int, f3, f5, d, d1]
      refine callQS_quiet (spec_dropsr l hlen) ?_
      rw [hdr]
      simp only [sZ, initT, optI, splice, reduceIte, reduceCtorEq, Nat.reduceEqDiff, Nat.reduceAdd, Nat.reduceSub, Nat.reduceMul, Nat.reduceLeDiff, Nat.reduceLT, Int.reduceLT, Int.reduceLE, Int.reduceToNat, Int.reduceEq, Int.cast_ofNat_Int, f3, f5, Bool.not_false]
      refine OutQ.eq (by repeat (first | exact SExt.refl _ | (refine SExt.old ?_ (by first | (simp only [*]; done) | (simp only [upd_none]; assumption) | (simp only [upd_none, *, not_false_eq_true, and_self]; done)) _))) rfl
    · have hB : dropB l κ = true := by unfold dropB; rw [d1, hdr]; rfl
      rw [hB]
      simp only [sZ, initT, optI, splice, reduceIte, reduceCtorEq, Nat.reduceEqDiff, Nat.reduceAdd, Nat.reduceSub, Nat.reduceMul, Nat.reduceLeDiff, Nat.reduceLT, Int.reduceLT, Int.reduceLE, Int.reduceToNat, Int.reduceEq, Int.cast_ofNat_Int, f3, f5, d, d1]
      refine callQS_quiet (spec_dropsr l hlen) ?_
      rw [hdr]
      simp only [sZ, initT, optI, splice, reduceIte, reduceCtorEq, Nat.reduceEqDiff, Nat.reduceAdd, Nat.reduceSub, Nat.reduceMul, Nat.reduceLeDiff, Nat.reduceLT, Int.reduceLT, Int.reduceLE, Int.reduceToNat, Int.reduceEq, Int.cast_ofNat_Int, f3, f5, Bool.not_true]
      refine hmain _ rfl rfl rfl rfl _ ?_
      intro t'
      simp only [sZ, initT, optI, splice, reduceIte, reduceCtorEq, Nat.reduceEqDiff, Nat.reduceAdd, Nat.reduceSub, Nat.reduceMul, Nat.reduceLeDiff, Nat.reduceLT, Int.reduceLT, Int.reduceLE, Int.reduceToNat, Int.reduceEq, Int.cast_ofNat_Int]
      refine OutQ.eq (by repeat (first | exact SExt.refl _ | (refine SExt.old ?_ (by first | (simp only [*]; done) | (simp only [upd_none]; assumption) | (simp only [upd_none, *, not_false_eq_true, and_self]; done)) _))) rfl
  · have d1 := decide_eq_false c1
    have hB : dropB l κ = true := by unfold dropB; rw [d1]; rfl
    rw [hB]
    simp only [sZ, initT, optI, splice, reduceIte, reduceCtorEq, Nat.reduceEqDiff, Nat.reduceAdd, Nat.reduceSub, Nat.reduceMul, Nat.reduceLeDiff, Nat.reduceLT, Int.reduceLT, Int.reduceLE, Int.reduceToNat, Int.reduceEq, Int.cast_ofNat_Int, f3, f5, d, d1]
    refine hmain _ rfl rfl rfl rfl _ ?_
    intro t'
    simp only [sZ, initT, optI, splice, reduceIte, reduceCtorEq, Nat.reduceEqDiff, Nat.reduceAdd, Nat.reduceSub, Nat.reduceMul, Nat.reduceLeDiff, Nat.reduceLT, Int.reduceLT, Int.reduceLE, Int.reduceToNat, Int.reduceEq, Int.cast_ofNat_Int]
    refine OutQ.eq (by repeat (first | exact SExt.refl _ | (refine SExt.old ?_ (by first | (simp only [*]; done) | (simp only [upd_none]; assumption) | (simp only [upd_none, *, not_false_eq_true, and_self]; done)) _))) rfl
end Go.Pv
