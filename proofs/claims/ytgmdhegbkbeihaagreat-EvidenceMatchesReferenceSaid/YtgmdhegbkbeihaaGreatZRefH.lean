/- The reference's search, and its sound maps. -/
import Derived.Test.YtgmdhegbkbeihaaGreatZLawO
import Derived.Test.YtgmdhegbkbeihaaGreatZPvTs
set_option linter.unusedVariables false
set_option linter.unusedSimpArgs false
set_option maxRecDepth 4000
set_option maxHeartbeats 4000000
namespace Go.Pv
open Go

theorem pairwise_get {α : Type} {R : α → α → Prop} {l : List α} (h : l.Pairwise R) {i j : Nat} (hi : i < l.length) (hj : j < l.length) (hij : i < j) : R l[i] l[j] := List.pairwise_iff_getElem.1 h i j hi hj hij
theorem lt_id {m : List Obj} (h : mapV m = true) {i j : Nat} (hi : i < m.length) (hj : j < m.length) (hij : i < j) : ltS m[i].id m[j].id = true := by
  unfold mapV at h
  rw [Bool.and_eq_true] at h
  exact pairwise_get (chain_lt h.1).2 hi hj hij
theorem ltS_trans {a b c : ByteArray} (h : ltS a b = true) (h' : ltS b c = true) : ltS a c = true := bl_trans _ _ _ h h'
theorem ltS_irrefl (a : ByteArray) : ltS a a = false := bl_irrefl _
theorem half (f t : Nat) (h : f + t < 4611686018427387904) : IntKind.i64.wrap ((IntKind.i64.wrap ((f : Int) + (t : Int))).tdiv 2) = (((f + t) / 2 : Nat) : Int) := by
  have h1 : IntKind.i64.wrap ((f : Int) + (t : Int)) = (f : Int) + (t : Int) := wrap64 (by omega) (by omega)
  have h2 : ((f : Int) + (t : Int)).tdiv 2 = ((f : Int) + (t : Int)) / 2 := Int.tdiv_eq_ediv_of_nonneg (by omega)
  rw [h1, h2, wrap64 (by omega) (by omega)]
  omega
theorem spec_findB (m : List Obj) (x : ByteArray) (hv : mapV m = true) (hl : m.length < 1152921504606846976) {s : Nat → Option Blk} {k : Nat → Tk} : Spec prg 107 [.agg (encMap m), .str x] s k (.int .i64 (idxOf (fun o : Obj => decide (o.id = x)) m)) s k := by
  refine spec_tr prg_mixed tr_pref13_Find (Nat.le_of_ble_eq_true rfl) rfl ?_
  unfold pc_pref13_Find rs_pref13_Find
  simp only [sZ, initT, optI, splice, reduceIte, reduceCtorEq, Nat.reduceEqDiff, Nat.reduceAdd, Nat.reduceSub, Nat.reduceMul, Nat.reduceLeDiff, Nat.reduceLT, Int.reduceLT, Int.reduceLE, Int.reduceToNat, Int.reduceEq, Int.cast_ofNat_Int, encMap]
  (with_reducible refine newS_in ?_); intro b2 f2; simp only [upd_none] at f2
  simp only [sZ, initT, optI, splice, reduceIte, reduceCtorEq, Nat.reduceEqDiff, Nat.reduceAdd, Nat.reduceSub, Nat.reduceMul, Nat.reduceLeDiff, Nat.reduceLT, Int.reduceLT, Int.reduceLE, Int.reduceToNat, Int.reduceEq, Int.cast_ofNat_Int, f2]
  refine loop_M (α := Nat × Nat) (fun a => a.2 - a.1) (fun a => [(1, .str x), (2, .ptr b2 0), (5, .int .i64 a.1), (6, .int .i64 a.2)]) (fun _ => upd s b2 (some (.cells [.sl 6 (m.map encObj) .no]))) (fun _ => k)
    (fun a => a.1 ≤ a.2 ∧ a.2 ≤ m.length ∧ (∀ i (h : i < m.length), i < a.1 → ltS m[i].id x = true) ∧ ∀ i (h : i < m.length), a.2 ≤ i → ltS m[i].id x = false) (0, m.length) (SExt.refl _) rfl (by (try simp only [TabLe_cons, TabLe_nil, tab_cons, tab_nil, upd_apply, Nat.reduceEqDiff, reduceIte, and_true]); repeat' (first | exact trivial | exact A.le_refl _ | exact le_strip_no _ _ _ | exact A.le_no _ _ _ | exact A.le_empty _ _ _ | refine And.intro ?_ ?_)) ⟨by omega, by omega, fun i _ h => by omega, fun i h h2 => by omega⟩ ?_
  rintro ⟨f, t⟩ ⟨hft, htm, hlo, hhi⟩
  dsimp only at hft htm hlo hhi ⊢
  simp only [sZ, initT, optI, splice, reduceIte, reduceCtorEq, Nat.reduceEqDiff, Nat.reduceAdd, Nat.reduceSub, Nat.reduceMul, Nat.reduceLeDiff, Nat.reduceLT, Int.reduceLT, Int.reduceLE, Int.reduceToNat, Int.reduceEq, Int.cast_ofNat_Int, f2]
  refine brC_in (fun hlt => ?_) (fun hge => ?_)
  · have hlt' : f < t := by have := of_decide_eq_true hlt; omega
    clear hlt
    have hh := half f t (by omega)
    have hq : (f + t) / 2 < m.length := by omega
    have hg : (m.map encObj)[(f + t) / 2]? = some (encObj m[(f + t) / 2]) := objE.get hq
    have p1 : (0 : Int) ≤ (((f + t) / 2 : Nat) : Int) := by omega
    have h2 : (2 : Int) = 0 ↔ False := by decide
    have h0 : (encObj m[(f + t) / 2])[0]? = some (.str m[(f + t) / 2].id) := rfl
    have hf1 : f ≤ (f + t) / 2 := by omega
    have ht1 : (f + t) / 2 < t := by omega
    generalize hQ : (f + t) / 2 = q at *
    have hw := wrap_succ hq (by omega)
    simp only [sZ, initT, optI, splice, reduceIte, reduceCtorEq, Nat.reduceEqDiff, Nat.reduceAdd, Nat.reduceSub, Nat.reduceMul, Nat.reduceLeDiff, Nat.reduceLT, Int.reduceLT, Int.reduceLE, Int.reduceToNat, Int.reduceEq, Int.cast_ofNat_Int, f2, hh, hg, p1, h2, h0, Int.toNat_natCast, ltS_eq]
    refine brC_in (fun c => ?_) (fun c => ?_)
    · simp only [sZ, initT, optI, splice, reduceIte, reduceCtorEq, Nat.reduceEqDiff, Nat.reduceAdd, Nat.reduceSub, Nat.reduceMul, Nat.reduceLeDiff, Nat.reduceLT, Int.reduceLT, Int.reduceLE, Int.reduceToNat, Int.reduceEq, Int.cast_ofNat_Int, hw]
      refine next_M (q + 1, t) (by show t - (q + 1) < t - f; omega) (SExt.refl _) rfl (by (try simp only [TabLe_cons, TabLe_nil, tab_cons, tab_nil, upd_apply, Nat.reduceEqDiff, reduceIte, and_true]); repeat' (first | exact trivial | exact A.le_refl _ | exact le_strip_no _ _ _ | exact A.le_no _ _ _ | exact A.le_empty _ _ _ | refine And.intro ?_ ?_)) ⟨by omega, htm, fun i hi hi2 => ?_, hhi⟩
      by_cases e : i = q
      · subst e; exact c
      · exact ltS_trans (lt_id hv hi hq (by omega)) c
    · simp only [sZ, initT, optI, splice, reduceIte, reduceCtorEq, Nat.reduceEqDiff, Nat.reduceAdd, Nat.reduceSub, Nat.reduceMul, Nat.reduceLeDiff, Nat.reduceLT, Int.reduceLT, Int.reduceLE, Int.reduceToNat, Int.reduceEq, Int.cast_ofNat_Int]
      refine next_M (f, q) (by show q - f < t - f; omega) (SExt.refl _) rfl (by (try simp only [TabLe_cons, TabLe_nil, tab_cons, tab_nil, upd_apply, Nat.reduceEqDiff, reduceIte, and_true]); repeat' (first | exact trivial | exact A.le_refl _ | exact le_strip_no _ _ _ | exact A.le_no _ _ _ | exact A.le_empty _ _ _ | refine And.intro ?_ ?_)) ⟨by omega, by omega, hlo, fun i hi hi2 => ?_⟩
      by_cases e : i = q
      · subst e; exact c
      · cases hc : ltS m[i].id x with
        | false => rfl
        | true => rw [ltS_trans (lt_id hv hq hi (by omega)) hc] at c; cases c
  · have hft' : f = t := by have := of_decide_eq_false hge; omega
    subst hft'
    clear hge
    simp only [sZ, initT, optI, splice, reduceIte, reduceCtorEq, Nat.reduceEqDiff, Nat.reduceAdd, Nat.reduceSub, Nat.reduceMul, Nat.reduceLeDiff, Nat.reduceLT, Int.reduceLT, Int.reduceLE, Int.reduceToNat, Int.reduceEq, Int.cast_ofNat_Int, f2]
    by_cases hfm : f < m.length
    · have d1 : decide ((f : Int) < (m.length : Int)) = true := decide_eq_true (by omega)
      have hg : (m.map encObj)[f]? = some (encObj m[f]) := objE.get hfm
      have h0 : (encObj m[f])[0]? = some (.str m[f].id) := rfl
      have p1 : (0 : Int) ≤ (f : Int) := by omega
      by_cases e : m[f].id = x
      · have d2 := decide_eq_true e
        have hI : idxOf (fun o : Obj => decide (o.id = x)) m = f := idxOf_some hfm d2 fun j hj hjf => decide_eq_false fun e2 => by
          have := hlo j hj hjf
          rw [e2, ltS_irrefl] at this
          cases this
        rw [hI]
        simp only [sZ, initT, optI, splice, reduceIte, reduceCtorEq, Nat.reduceEqDiff, Nat.reduceAdd, Nat.reduceSub, Nat.reduceMul, Nat.reduceLeDiff, Nat.reduceLT, Int.reduceLT, Int.reduceLE, Int.reduceToNat, Int.reduceEq, Int.cast_ofNat_Int, f2, d1, hg, h0, p1, Int.toNat_natCast, d2]
        refine OutQ.eq (by repeat (first | exact SExt.refl _ | (refine SExt.old ?_ (by first | (simp only [*]; done) | (simp only [upd_none]; assumption) | (simp only [upd_none, *, not_false_eq_true, and_self]; done)) _))) rfl
      · have d2 := decide_eq_false e
        have hI : idxOf (fun o : Obj => decide (o.id = x)) m = -1 := idxOf_none fun j hj => decide_eq_false fun e2 => by
          by_cases h1 : j < f
          · have := hlo j hj h1
            rw [e2, ltS_irrefl] at this
            cases this
          · by_cases h2 : j = f
            · subst h2; exact e e2
            · have h3 := hhi f hfm (by omega)
              rw [← e2, lt_id hv hfm hj (by omega)] at h3
              cases h3
        rw [hI]
        simp only [sZ, initT, optI, splice, reduceIte, reduceCtorEq, Nat.reduceEqDiff, Nat.reduceAdd, Nat.reduceSub, Nat.reduceMul, Nat.reduceLeDiff, Nat.reduceLT, Int.reduceLT, Int.reduceLE, Int.reduceToNat, Int.reduceEq, Int.cast_ofNat_Int, f2, d1, hg, h0, p1, Int.toNat_natCast, d2]
        refine OutQ.eq (by repeat (first | exact SExt.refl _ | (refine SExt.old ?_ (by first | (simp only [*]; done) | (simp only [upd_none]; assumption) | (simp only [upd_none, *, not_false_eq_true, and_self]; done)) _))) rfl
    · have d1 : decide ((f : Int) < (m.length : Int)) = false := decide_eq_false (by omega)
      have hI : idxOf (fun o : Obj => decide (o.id = x)) m = -1 := idxOf_none fun j hj => decide_eq_false fun e2 => by
        have := hlo j hj (by omega)
        rw [e2, ltS_irrefl] at this
        cases this
      rw [hI]
      simp only [sZ, initT, optI, splice, reduceIte, reduceCtorEq, Nat.reduceEqDiff, Nat.reduceAdd, Nat.reduceSub, Nat.reduceMul, Nat.reduceLeDiff, Nat.reduceLT, Int.reduceLT, Int.reduceLE, Int.reduceToNat, Int.reduceEq, Int.cast_ofNat_Int, f2, d1]
      refine OutQ.eq (by repeat (first | exact SExt.refl _ | (refine SExt.old ?_ (by first | (simp only [*]; done) | (simp only [upd_none]; assumption) | (simp only [upd_none, *, not_false_eq_true, and_self]; done)) _))) rfl
theorem spec_kind13 (o : Obj) (i : Int) {s : Nat → Option Blk} {k : Nat → Tk} : Spec prg 108 [.agg (encObj o), .int .i64 i] s k (.int .i64 (wantK o.kind i)) s k := by
  refine spec_tr prg_mixed tr_pref13_kind (Nat.le_of_ble_eq_true rfl) rfl ?_
  unfold pc_pref13_kind rs_pref13_kind
  obtain ⟨id, kind, x, y, refs, tags⟩ := o
  dsimp only
  simp only [sZ, initT, optI, splice, reduceIte, reduceCtorEq, Nat.reduceEqDiff, Nat.reduceAdd, Nat.reduceSub, Nat.reduceMul, Nat.reduceLeDiff, Nat.reduceLT, Int.reduceLT, Int.reduceLE, Int.reduceToNat, Int.reduceEq, Int.cast_ofNat_Int, encObj]
  (with_reducible refine newS_in ?_); intro b2 f2; simp only [upd_none] at f2
  repeat' (first | (first | (with_reducible refine newS_in ?_; intro _ hid_; simp only [upd_none] at hid_) | (with_reducible refine newR_in ?_; intro _ hid_ hih_; simp only [upd_none, upd_none', rr_eqs2, and_true] at hid_ hih_) | (with_reducible refine mkmS_in ?_; intro _ hid_; simp only [upd_none] at hid_)) | (with_reducible refine brC_in (fun h_ => ?_) (fun h_ => ?_)) | (with_reducible refine brG_in (fun h_ => ?_) (fun h_ => ?_)) | (with_reducible refine brN_in (fun h_ => ?_) (fun h_ => ?_)) | simp only [sZ, initT, optI, splice, reduceIte, reduceCtorEq, Nat.reduceEqDiff, Nat.reduceAdd, Nat.reduceSub, Nat.reduceMul, Nat.reduceLeDiff, Nat.reduceLT, Int.reduceLT, Int.reduceLE, Int.reduceToNat, Int.reduceEq, Int.cast_ofNat_Int, *, f2])
  all_goals refine OutQ.eq (by repeat (first | exact SExt.refl _ | (refine SExt.old ?_ (by first | (simp only [*]; done) | (simp only [upd_none]; assumption) | (simp only [upd_none, *, not_false_eq_true, and_self]; done)) _))) ?_
  all_goals (simp only [wantK, *, Bool.true_or, Bool.false_or, Bool.true_and, Bool.false_and, cond_true, cond_false])
end Go.Pv
