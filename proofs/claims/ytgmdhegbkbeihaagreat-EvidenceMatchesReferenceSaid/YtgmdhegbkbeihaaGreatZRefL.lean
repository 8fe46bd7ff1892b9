/- The reference's evidence: the first, what holds, what is found. -/
import Derived.Test.YtgmdhegbkbeihaaGreatZRefK
set_option linter.unusedVariables false
set_option linter.unusedSimpArgs false
set_option maxRecDepth 4000
set_option maxHeartbeats 4000000
namespace Go.Pv
open Go

/-- What the loops over a change set may use. -/
structure Ev (m : List Obj) (l : List Edit) (κ : Int) : Prop where
  h1 : 1 ≤ κ
  h4 : κ ≤ 4
  hl : l.length < 70000
  hm : MapFit m
  hf : ∀ e ∈ l, EditFit e
  hv : ∀ e ∈ l, editV e = true
theorem Ev.show_ {m : List Obj} {l : List Edit} {κ : Int} (h : Ev m l κ) (e : Edit) (s : Hp) (k : Nat → Tk) : Spec prg 73 [.agg (encMap m), .agg (encEdit e), .int .i64 κ] s k (.bool (showE m κ e)) s k := by
  refine spec_showr m e κ h.h1 h.h4 h.hm.len ?_
  unfold objF
  split
  · rename_i o ho
    exact (h.hm.obj o (List.mem_of_find?_eq_some ho)).tags
  · decide
theorem Ev.fit {m : List Obj} {l : List Edit} {κ : Int} (h : Ev m l κ) {a b : Edit} (ha : a ∈ l) (hb : b ∈ l) (sa : showE m κ a = true) (sb : showE m κ b = true) (s : Hp) (k : Nat → Tk) : Spec prg 74 [.agg (encEdit a), .agg (encEdit b), .int .i64 κ] s k (.bool (togE κ a b)) s k := by
  rw [← fit_tog m (h.hv a ha) (h.hv b hb) sa sb h.h1 h.h4]
  exact spec_fitr κ a b (h.hf a ha)
def firstG (m : List Obj) (l : List Edit) (κ : Int) (fro : Nat) : List Nat := if showE m κ (atE l fro) = true then firstE m l κ fro else []
theorem nat_get (f : List Nat) {j : Nat} (h : j < f.length) : (f.map encNat)[j]? = some (encNat f[j]) := by simp [h]
theorem get_nat (i : Nat) : (encNat i)[0]? = some (.int .i64 i) := rfl
theorem manyE_le (κ : Int) : manyE κ ≤ 5 := by unfold manyE; split <;> (try split) <;> omega
theorem firstS_stop (fits : Edit → List Edit → Bool) (l : List Edit) (M fro j : Nat) (hj : j ≤ l.length - fro) (h : j = l.length - fro ∨ ¬ (firstS fits l M fro j).length < M) : firstS fits l M fro j = firstF fits l M fro := by
  unfold firstF
  rcases h with h | h
  · rw [h]
  · have := firstS_full h (l.length - fro - j)
    rw [← this]
    congr 1
    omega
theorem spec_first0 {m : List Obj} {l : List Edit} {κ : Int} (E : Ev m l κ) (fro : Nat) (hfro : fro < l.length) (hs : showE m κ (atE l fro) = false) {s : Nat → Option Blk} {k : Nat → Tk} : Spec prg 39 [.agg (encMap m), .sl 15 (l.map encEdit) .no, .int .i64 κ, .int .i64 fro] s k (.sl 1 [] .no) s k := by
  refine spec_tr prg_mixed tr_pref31_first (Nat.le_of_ble_eq_true rfl) rfl ?_
  unfold pc_pref31_first rs_pref31_first
  have hsh := fun e s k => E.show_ e s k
  have hE4 : encMap m = [.sl 6 (m.map encObj) .no] := rfl
  have hlen := E.hl
  simp only [hE4] at hsh
  simp only [sZ, initT, optI, splice, reduceIte, reduceCtorEq, Nat.reduceEqDiff, Nat.reduceAdd, Nat.reduceSub, Nat.reduceMul, Nat.reduceLeDiff, Nat.reduceLT, Int.reduceLT, Int.reduceLE, Int.reduceToNat, Int.reduceEq, Int.cast_ofNat_Int, hE4]
  (with_reducible refine newS_in ?_); intro b4 f4; simp only [upd_none] at f4
  simp only [sZ, initT, optI, splice, reduceIte, reduceCtorEq, Nat.reduceEqDiff, Nat.reduceAdd, Nat.reduceSub, Nat.reduceMul, Nat.reduceLeDiff, Nat.reduceLT, Int.reduceLT, Int.reduceLE, Int.reduceToNat, Int.reduceEq, Int.cast_ofNat_Int, f4]
  refine loop_L (α := Unit) 0 (fun j _ => [(1, .sl 15 (l.map encEdit) .no), (2, .int .i64 κ), (3, .int .i64 fro), (4, .ptr b4 0), (9, .sl 1 [] .nil), (10, .int .i64 fro)]) (fun _ _ => upd s b4 (some (.cells [.sl 6 (m.map encObj) .no]))) (fun _ _ => k) (fun _ _ => True) () (SExt.refl _) rfl (by (try simp only [TabLe_cons, TabLe_nil, tab_cons, tab_nil, upd_apply, Nat.reduceEqDiff, reduceIte, and_true]); repeat' (first | exact trivial | exact A.le_refl _ | exact le_strip_no _ _ _ | exact A.le_no _ _ _ | exact A.le_empty _ _ _ | refine And.intro ?_ ?_)) trivial ?_
  rintro j ⟨⟩ hj -
  try dsimp only
  have d1 : decide ((fro : Int) < (l.length : Int)) = true := decide_eq_true (by omega)
  have hg : (l.map encEdit)[fro]? = some (encEdit l[fro]) := editE.get hfro
  have p1 : (0 : Int) ≤ (fro : Int) := by omega
  have hM : 0 < manyE κ := many_pos κ
  have d2 : decide ((0 : Int) < (manyE κ : Int)) = true := decide_eq_true (by omega)
  have d3 : decide ((fro : Int) = (fro : Int)) = true := decide_eq_true rfl
  rw [atE_get hfro] at hs
  simp only [sZ, initT, optI, splice, reduceIte, reduceCtorEq, Nat.reduceEqDiff, Nat.reduceAdd, Nat.reduceSub, Nat.reduceMul, Nat.reduceLeDiff, Nat.reduceLT, Int.reduceLT, Int.reduceLE, Int.reduceToNat, Int.reduceEq, Int.cast_ofNat_Int, f4, d1]
  refine callS_quiet (spec_manyr κ) ?_
  simp only [sZ, initT, optI, splice, reduceIte, reduceCtorEq, Nat.reduceEqDiff, Nat.reduceAdd, Nat.reduceSub, Nat.reduceMul, Nat.reduceLeDiff, Nat.reduceLT, Int.reduceLT, Int.reduceLE, Int.reduceToNat, Int.reduceEq, Int.cast_ofNat_Int, f4, d1, d2, hg, p1, Int.toNat_natCast, len_encEdit, wh_encEdit, st_encEdit]
  refine callQS_quiet (hsh _ _ _) ?_
  rw [hs]
  simp only [sZ, initT, optI, splice, reduceIte, reduceCtorEq, Nat.reduceEqDiff, Nat.reduceAdd, Nat.reduceSub, Nat.reduceMul, Nat.reduceLeDiff, Nat.reduceLT, Int.reduceLT, Int.reduceLE, Int.reduceToNat, Int.reduceEq, Int.cast_ofNat_Int, f4]
  refine loop_L (α := Unit) 0 (fun j _ => [(3, .int .i64 fro), (9, .sl 1 [] .nil), (10, .int .i64 fro), (11, .bool false), (12, .int .i64 0)]) (fun _ _ => upd s b4 (some (.cells [.sl 6 (m.map encObj) .no]))) (fun _ _ => k) (fun _ _ => True) () (SExt.refl _) rfl (by (try simp only [TabLe_cons, TabLe_nil, tab_cons, tab_nil, upd_apply, Nat.reduceEqDiff, reduceIte, and_true]); repeat' (first | exact trivial | exact A.le_refl _ | exact le_strip_no _ _ _ | exact A.le_no _ _ _ | exact A.le_empty _ _ _ | refine And.intro ?_ ?_)) trivial ?_
  rintro j ⟨⟩ hj -
  try dsimp only
  have d4 : decide ((0 : Int) < ((0 : Nat) : Int)) = false := rfl
  simp only [sZ, initT, optI, splice, reduceIte, reduceCtorEq, Nat.reduceEqDiff, Nat.reduceAdd, Nat.reduceSub, Nat.reduceMul, Nat.reduceLeDiff, Nat.reduceLT, Int.reduceLT, Int.reduceLE, Int.reduceToNat, Int.reduceEq, Int.cast_ofNat_Int, d4, d3]
  exact OutQ.le (by repeat (first | exact SExt.refl _ | (refine SExt.old ?_ (by first | (simp only [*]; done) | (simp only [upd_none]; assumption) | (simp only [upd_none, *, not_false_eq_true, and_self]; done)) _))) (A.le_no _ _ _)
theorem spec_first1 {m : List Obj} {l : List Edit} {κ : Int} (E : Ev m l κ) (fro : Nat) (hfro : fro < l.length) (hs : showE m κ (atE l fro) = true) {s : Nat → Option Blk} {k : Nat → Tk} : Spec prg 39 [.agg (encMap m), .sl 15 (l.map encEdit) .no, .int .i64 κ, .int .i64 fro] s k (.sl 1 ((firstE m l κ fro).map encNat) .no) s k := by
  refine spec_tr prg_mixed tr_pref31_first (Nat.le_of_ble_eq_true rfl) rfl ?_
  unfold pc_pref31_first rs_pref31_first
  have hsh := fun e s k => E.show_ e s k
  have hE4 : encMap m = [.sl 6 (m.map encObj) .no] := rfl
  have hlen := E.hl
  simp only [hE4] at hsh
  have hM : 0 < manyE κ := many_pos κ
  have hM5 := manyE_le κ
  simp only [sZ, initT, optI, splice, reduceIte, reduceCtorEq, Nat.reduceEqDiff, Nat.reduceAdd, Nat.reduceSub, Nat.reduceMul, Nat.reduceLeDiff, Nat.reduceLT, Int.reduceLT, Int.reduceLE, Int.reduceToNat, Int.reduceEq, Int.cast_ofNat_Int, hE4]
  (with_reducible refine newS_in ?_); intro b4 f4; simp only [upd_none] at f4
  simp only [sZ, initT, optI, splice, reduceIte, reduceCtorEq, Nat.reduceEqDiff, Nat.reduceAdd, Nat.reduceSub, Nat.reduceMul, Nat.reduceLeDiff, Nat.reduceLT, Int.reduceLT, Int.reduceLE, Int.reduceToNat, Int.reduceEq, Int.cast_ofNat_Int, f4]
  refine loop_L (α := Tok × (Nat → Tk)) (l.length - fro) (fun j p => [(1, .sl 15 (l.map encEdit) .no), (2, .int .i64 κ), (3, .int .i64 fro), (4, .ptr b4 0), (9, .sl 1 ((firstS (fitsE m κ) l (manyE κ) fro j).map encNat) p.1), (10, .int .i64 (fro + j : Nat))])
    (fun _ _ => upd s b4 (some (.cells [.sl 6 (m.map encObj) .no]))) (fun _ p => p.2) (fun _ p => KExt k p.2 ∧ TokA k p.2 3 p.1) (.nil, k) (SExt.refl _) rfl (by (try simp only [TabLe_cons, TabLe_nil, tab_cons, tab_nil, upd_apply, Nat.reduceEqDiff, reduceIte, and_true]); repeat' (first | exact trivial | exact A.le_refl _ | exact le_strip_no _ _ _ | exact A.le_no _ _ _ | exact A.le_empty _ _ _ | refine And.intro ?_ ?_)) ⟨KExt.refl _, .inl rfl⟩ ?_
  rintro j ⟨tok, k'⟩ hj ⟨hk, htok⟩
  dsimp only at hk htok ⊢
  generalize hf : firstS (fitsE m κ) l (manyE κ) fro j = f
  have hfl : f.length ≤ manyE κ := by rw [← hf]; exact firstS_le _ _ _ _ _
  have hft := firstS_taken m l κ (manyE κ) fro j
  rw [hf] at hft
  have hfm : ∀ i ∈ f, i < l.length := fun i hi => by
    rw [← hf] at hi
    have := firstS_mem _ _ _ _ _ i hi
    omega
  by_cases hlt : fro + j < l.length
  case neg =>
    have d1 : decide (((fro + j : Nat) : Int) < (l.length : Int)) = false := decide_eq_false (by omega)
    have he : f = firstE m l κ fro := by rw [← hf]; exact firstS_stop _ _ _ _ _ hj (.inl (by omega))
    rw [← he]
    simp only [sZ, initT, optI, splice, reduceIte, reduceCtorEq, Nat.reduceEqDiff, Nat.reduceAdd, Nat.reduceSub, Nat.reduceMul, Nat.reduceLeDiff, Nat.reduceLT, Int.reduceLT, Int.reduceLE, Int.reduceToNat, Int.reduceEq, Int.cast_ofNat_Int, d1]
    exact OutQ.lek (by repeat (first | exact SExt.refl _ | (refine SExt.old ?_ (by first | (simp only [*]; done) | (simp only [upd_none]; assumption) | (simp only [upd_none, *, not_false_eq_true, and_self]; done)) _))) hk (le_strip_no _ _ _)
  have d1 : decide (((fro + j : Nat) : Int) < (l.length : Int)) = true := decide_eq_true (by omega)
  by_cases hfM : f.length < manyE κ
  case neg =>
    have d2 : decide (((f.length : Nat) : Int) < (manyE κ : Int)) = false := decide_eq_false (by omega)
    have he : f = firstE m l κ fro := by rw [← hf]; exact firstS_stop _ _ _ _ _ hj (.inr (by rw [hf]; exact hfM))
    rw [← he]
    simp only [sZ, initT, optI, splice, reduceIte, reduceCtorEq, Nat.reduceEqDiff, Nat.reduceAdd, Nat.reduceSub, Nat.reduceMul, Nat.reduceLeDiff, Nat.reduceLT, Int.reduceLT, Int.reduceLE, Int.reduceToNat, Int.reduceEq, Int.cast_ofNat_Int, d1]
    refine callS_quiet (spec_manyr κ) ?_
    simp only [sZ, initT, optI, splice, reduceIte, reduceCtorEq, Nat.reduceEqDiff, Nat.reduceAdd, Nat.reduceSub, Nat.reduceMul, Nat.reduceLeDiff, Nat.reduceLT, Int.reduceLT, Int.reduceLE, Int.reduceToNat, Int.reduceEq, Int.cast_ofNat_Int, d2]
    exact OutQ.lek (by repeat (first | exact SExt.refl _ | (refine SExt.old ?_ (by first | (simp only [*]; done) | (simp only [upd_none]; assumption) | (simp only [upd_none, *, not_false_eq_true, and_self]; done)) _))) hk (le_strip_no _ _ _)
  have d2 : decide (((f.length : Nat) : Int) < (manyE κ : Int)) = true := decide_eq_true (by omega)
  have hg : (l.map encEdit)[fro + j]? = some (encEdit l[fro + j]) := editE.get hlt
  have p1 : (0 : Int) ≤ ((fro + j : Nat) : Int) := by omega
  have hw : IntKind.i64.wrap (((fro + j : Nat) : Int) + 1) = ((fro + (j + 1) : Nat) : Int) := wrap64 (by omega) (by omega)
  have hatj := atE_get hlt
  have hS1 : firstS (fitsE m κ) l (manyE κ) fro (j + 1) = if f.length < manyE κ ∧ fitsE m κ (atE l (fro + j)) (f.map (atE l)) = true then f ++ [fro + j] else f := by
    simp only [firstS, hf]
  simp only [sZ, initT, optI, splice, reduceIte, reduceCtorEq, Nat.reduceEqDiff, Nat.reduceAdd, Nat.reduceSub, Nat.reduceMul, Nat.reduceLeDiff, Nat.reduceLT, Int.reduceLT, Int.reduceLE, Int.reduceToNat, Int.reduceEq, Int.cast_ofNat_Int, d1]
  refine callS_quiet (spec_manyr κ) ?_
  simp only [sZ, initT, optI, splice, reduceIte, reduceCtorEq, Nat.reduceEqDiff, Nat.reduceAdd, Nat.reduceSub, Nat.reduceMul, Nat.reduceLeDiff, Nat.reduceLT, Int.reduceLT, Int.reduceLE, Int.reduceToNat, Int.reduceEq, Int.cast_ofNat_Int, f4, d2, hg, p1, Int.toNat_natCast, len_encEdit, wh_encEdit, st_encEdit]
  refine callQS_quiet (hsh _ _ _) ?_
  simp only [sZ, initT, optI, splice, reduceIte, reduceCtorEq, Nat.reduceEqDiff, Nat.reduceAdd, Nat.reduceSub, Nat.reduceMul, Nat.reduceLeDiff, Nat.reduceLT, Int.reduceLT, Int.reduceLE, Int.reduceToNat, Int.reduceEq, Int.cast_ofNat_Int, f4]
  refine loop_L (α := Unit) f.length (fun q _ => [(1, .sl 15 (l.map encEdit) .no), (2, .int .i64 κ), (3, .int .i64 fro), (4, .ptr b4 0), (9, .sl 1 (f.map encNat) tok), (10, .int .i64 (fro + j : Nat)), (11, .bool (showE m κ l[fro + j] && (f.take q).all fun y => togE κ (atE l y) l[fro + j])), (12, .int .i64 q)])
    (fun _ _ => upd s b4 (some (.cells [.sl 6 (m.map encObj) .no]))) (fun _ _ => k') (fun _ _ => True) () (SExt.refl _) rfl (by rw [List.take_zero, List.all_nil, Bool.and_true]; exact (by (try simp only [TabLe_cons, TabLe_nil, tab_cons, tab_nil, upd_apply, Nat.reduceEqDiff, reduceIte, and_true]); repeat' (first | exact trivial | exact A.le_refl _ | exact le_strip_no _ _ _ | exact A.le_no _ _ _ | exact A.le_empty _ _ _ | refine And.intro ?_ ?_))) trivial ?_
  rintro q ⟨⟩ hq -
  try dsimp only
  by_cases hql : q < f.length
  · have e1 : decide ((q : Int) < ((f.length : Nat) : Int)) = true := decide_eq_true (by omega)
    have hat := all_take (fun y => togE κ (atE l y) l[fro + j]) f hql
    have hwq : IntKind.i64.wrap ((q : Int) + 1) = ((q + 1 : Nat) : Int) := wrap_succ hql (by omega)
    have hgf := nat_get f hql
    have hfq : f[q] < l.length := hfm _ (List.getElem_mem hql)
    have hgq : (l.map encEdit)[f[q]]? = some (encEdit l[f[q]]) := editE.get hfq
    cases hgood : showE m κ l[fro + j] && (f.take q).all fun y => togE κ (atE l y) l[fro + j]
    · simp only [sZ, initT, optI, splice, reduceIte, reduceCtorEq, Nat.reduceEqDiff, Nat.reduceAdd, Nat.reduceSub, Nat.reduceMul, Nat.reduceLeDiff, Nat.reduceLT, Int.reduceLT, Int.reduceLE, Int.reduceToNat, Int.reduceEq, Int.cast_ofNat_Int, e1]
      simp only [sZ, initT, optI, splice, reduceIte, reduceCtorEq, Nat.reduceEqDiff, Nat.reduceAdd, Nat.reduceSub, Nat.reduceMul, Nat.reduceLeDiff, Nat.reduceLT, Int.reduceLT, Int.reduceLE, Int.reduceToNat, Int.reduceEq, Int.cast_ofNat_Int, hwq]
      refine next_L hql () (SExt.refl _) rfl ?_ trivial
      have : (showE m κ l[fro + j] && (f.take (q + 1)).all fun y => togE κ (atE l y) l[fro + j]) = false := by
        rw [hat, ← Bool.and_assoc, hgood, Bool.false_and]
      rw [this]
      exact (by (try simp only [TabLe_cons, TabLe_nil, tab_cons, tab_nil, upd_apply, Nat.reduceEqDiff, reduceIte, and_true]); repeat' (first | exact trivial | exact A.le_refl _ | exact le_strip_no _ _ _ | exact A.le_no _ _ _ | exact A.le_empty _ _ _ | refine And.intro ?_ ?_))
    · have hsj : showE m κ l[fro + j] = true := by
        rw [Bool.and_eq_true] at hgood
        exact hgood.1
      have hsq : showE m κ l[f[q]] = true := by
        have := hft.show_ f[q] (List.getElem_mem hql)
        rwa [atE_get hfq] at this
      have hfit := fun s k => E.fit (List.getElem_mem hfq) (List.getElem_mem hlt) hsq hsj s k
      have pq : (0 : Int) ≤ ((f[q] : Nat) : Int) := by omega
      simp only [sZ, initT, optI, splice, reduceIte, reduceCtorEq, Nat.reduceEqDiff, Nat.reduceAdd, Nat.reduceSub, Nat.reduceMul, Nat.reduceLeDiff, Nat.reduceLT, Int.reduceLT, Int.reduceLE, Int.reduceToNat, Int.reduceEq, Int.cast_ofNat_Int, e1, hgf, get_nat, hgq, hg, p1, pq, Int.toNat_natCast, len_encEdit, wh_encEdit, st_encEdit]
      refine callQS_quiet (hfit _ _) ?_
      simp only [sZ, initT, optI, splice, reduceIte, reduceCtorEq, Nat.reduceEqDiff, Nat.reduceAdd, Nat.reduceSub, Nat.reduceMul, Nat.reduceLeDiff, Nat.reduceLT, Int.reduceLT, Int.reduceLE, Int.reduceToNat, Int.reduceEq, Int.cast_ofNat_Int]
      simp only [sZ, initT, optI, splice, reduceIte, reduceCtorEq, Nat.reduceEqDiff, Nat.reduceAdd, Nat.reduceSub, Nat.reduceMul, Nat.reduceLeDiff, Nat.reduceLT, Int.reduceLT, Int.reduceLE, Int.reduceToNat, Int.reduceEq, Int.cast_ofNat_Int, hwq]
      refine next_L hql () (SExt.refl _) rfl ?_ trivial
      have : (showE m κ l[fro + j] && (f.take (q + 1)).all fun y => togE κ (atE l y) l[fro + j]) = togE κ l[f[q]] l[fro + j] := by
        rw [hat, ← Bool.and_assoc, hgood, Bool.true_and, atE_get hfq]
      rw [this]
      exact (by (try simp only [TabLe_cons, TabLe_nil, tab_cons, tab_nil, upd_apply, Nat.reduceEqDiff, reduceIte, and_true]); repeat' (first | exact trivial | exact A.le_refl _ | exact le_strip_no _ _ _ | exact A.le_no _ _ _ | exact A.le_empty _ _ _ | refine And.intro ?_ ?_))
  · have e1 : decide ((q : Int) < ((f.length : Nat) : Int)) = false := decide_eq_false (by omega)
    have hqe : q = f.length := by omega
    subst hqe
    rw [List.take_length]
    have hfe : (showE m κ l[fro + j] && f.all fun y => togE κ (atE l y) l[fro + j]) = fitsE m κ (atE l (fro + j)) (f.map (atE l)) := by
      rw [fitsE_eq, List.all_map, hatj]
      rfl
    rw [hfe]
    cases hgood : fitsE m κ (atE l (fro + j)) (f.map (atE l))
    · rw [if_neg (by rw [hgood]; rintro ⟨_, h⟩; cases h)] at hS1
      have hj0 : j ≠ 0 := by
        rintro rfl
        have hf0 : f = [] := by rw [← hf]; rfl
        subst hf0
        rw [fitsE_eq, Nat.add_zero, hs] at hgood
        simp at hgood
      have d3 : decide (((fro + j : Nat) : Int) = (fro : Int)) = false := decide_eq_false (by omega)
      simp only [sZ, initT, optI, splice, reduceIte, reduceCtorEq, Nat.reduceEqDiff, Nat.reduceAdd, Nat.reduceSub, Nat.reduceMul, Nat.reduceLeDiff, Nat.reduceLT, Int.reduceLT, Int.reduceLE, Int.reduceToNat, Int.reduceEq, Int.cast_ofNat_Int, e1, d3]
      simp only [sZ, initT, optI, splice, reduceIte, reduceCtorEq, Nat.reduceEqDiff, Nat.reduceAdd, Nat.reduceSub, Nat.reduceMul, Nat.reduceLeDiff, Nat.reduceLT, Int.reduceLT, Int.reduceLE, Int.reduceToNat, Int.reduceEq, Int.cast_ofNat_Int, hw]
      refine next_L (by omega) (tok, k') (SExt.refl _) rfl ?_ ⟨hk, htok⟩
      rw [hS1]
      exact (by (try simp only [TabLe_cons, TabLe_nil, tab_cons, tab_nil, upd_apply, Nat.reduceEqDiff, reduceIte, and_true]); repeat' (first | exact trivial | exact A.le_refl _ | exact le_strip_no _ _ _ | exact A.le_no _ _ _ | exact A.le_empty _ _ _ | refine And.intro ?_ ?_))
    · rw [if_pos ⟨hfM, hgood⟩] at hS1
      simp only [sZ, initT, optI, splice, reduceIte, reduceCtorEq, Nat.reduceEqDiff, Nat.reduceAdd, Nat.reduceSub, Nat.reduceMul, Nat.reduceLeDiff, Nat.reduceLT, Int.reduceLT, Int.reduceLE, Int.reduceToNat, Int.reduceEq, Int.cast_ofNat_Int, e1]
      refine app_in hk htok (by simp; omega) fun tok2 k2 hk2 htok2 => ?_
      simp only [sZ, initT, optI, splice, reduceIte, reduceCtorEq, Nat.reduceEqDiff, Nat.reduceAdd, Nat.reduceSub, Nat.reduceMul, Nat.reduceLeDiff, Nat.reduceLT, Int.reduceLT, Int.reduceLE, Int.reduceToNat, Int.reduceEq, Int.cast_ofNat_Int, hw]
      refine next_L (by omega) (tok2, k2) (SExt.refl _) rfl ?_ ⟨hk2, htok2⟩
      have : (firstS (fitsE m κ) l (manyE κ) fro (j + 1)).map encNat = f.map encNat ++ [[.int .i64 (fro + j : Nat)]] := by rw [hS1, List.map_append]; rfl
      rw [this]
      exact (by (try simp only [TabLe_cons, TabLe_nil, tab_cons, tab_nil, upd_apply, Nat.reduceEqDiff, reduceIte, and_true]); repeat' (first | exact trivial | exact A.le_refl _ | exact le_strip_no _ _ _ | exact A.le_no _ _ _ | exact A.le_empty _ _ _ | refine And.intro ?_ ?_))
theorem spec_firstr {m : List Obj} {l : List Edit} {κ : Int} (E : Ev m l κ) (fro : Nat) (hfro : fro < l.length) {s : Nat → Option Blk} {k : Nat → Tk} : Spec prg 39 [.agg (encMap m), .sl 15 (l.map encEdit) .no, .int .i64 κ, .int .i64 fro] s k (.sl 1 ((firstG m l κ fro).map encNat) .no) s k := by
  unfold firstG
  cases hs : showE m κ (atE l fro)
  · rw [if_neg (by decide)]
    exact spec_first0 E fro hfro hs
  · rw [if_pos rfl]
    exact spec_first1 E fro hfro hs
end Go.Pv
