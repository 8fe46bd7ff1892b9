/- The reference: its small functions. -/
import Derived.Test.YtgmdhegbkbeihaaLawG
set_option linter.unusedVariables false
set_option linter.unusedSimpArgs false
set_option maxRecDepth 4000
set_option maxHeartbeats 1000000
namespace Go.Pv
open Go

theorem find_first {α : Type} {p : α → Bool} {l : List α} {i : Nat} (h : i < l.length) (hp : p l[i] = true) (hj : ∀ j (h : j < l.length), j < i → p l[j] = false) : l.find? p = some l[i] := by
  rw [List.find?_eq_some_iff_getElem]
  exact ⟨hp, i, h, rfl, fun j hj' => by rw [hj j (by omega) hj']; rfl⟩
theorem find_nothing {α : Type} {p : α → Bool} {l : List α} (hj : ∀ j (h : j < l.length), p l[j] = false) : l.find? p = none := by
  rw [List.find?_eq_none]
  intro x hx
  obtain ⟨j, h, rfl⟩ := List.getElem_of_mem hx
  rw [hj j h]
  simp
theorem id_obj (o : Obj) : (encObj o)[0]? = some (.str o.id) := rfl
theorem spec28 (l : List Obj) (i : ByteArray) {s : Nat → Option Blk} {k : Nat → Tk} (hl : l.length < 4611686018427387904) :
    Spec prg 28 [.agg (encMap l), .str i] s k (.tup [.agg (encObj (objF l i).1), .bool (objF l i).2]) s k := by
  refine spec_tr prg_mixed tr_pref32_find (Nat.le_of_ble_eq_true rfl) rfl ?_
  unfold pc_pref32_find rs_pref32_find
  simp only [pvZ, lz, nz, rr_one, upd_apply, upd_upd, initT, optI, splice, reduceIte, reduceCtorEq, Nat.reduceEqDiff, Nat.reduceAdd, Nat.reduceSub, Nat.reduceMul, Nat.reduceLeDiff, Nat.reduceLT, Int.reduceLT, Int.reduceLE, Int.reduceToNat, Int.reduceEq, Int.cast_ofNat_Int, and_true, not_false_eq_true, encMap]
  (with_reducible refine newS_in ?_); intro b2 h2; simp only [upd_none] at h2
  simp only [pvZ, lz, nz, rr_one, upd_apply, upd_upd, initT, optI, splice, reduceIte, reduceCtorEq, Nat.reduceEqDiff, Nat.reduceAdd, Nat.reduceSub, Nat.reduceMul, Nat.reduceLeDiff, Nat.reduceLT, Int.reduceLT, Int.reduceLE, Int.reduceToNat, Int.reduceEq, Int.cast_ofNat_Int, and_true, not_false_eq_true]
  (with_reducible refine newS_in ?_); intro b4 h4; simp only [upd_none] at h4
  simp only [pvZ, lz, nz, rr_one, upd_apply, upd_upd, initT, optI, splice, reduceIte, reduceCtorEq, Nat.reduceEqDiff, Nat.reduceAdd, Nat.reduceSub, Nat.reduceMul, Nat.reduceLeDiff, Nat.reduceLT, Int.reduceLT, Int.reduceLE, Int.reduceToNat, Int.reduceEq, Int.cast_ofNat_Int, and_true, not_false_eq_true, *]
  refine loop_intro (fun n st => ∃ j : Nat, SExt s st.s ∧ st.k = k ∧ st.s b2 = some (.cells [.sl 6 (l.map encObj) .no]) ∧ st.s b4 = some (.cells zcells) ∧ st.t 1 = .str i ∧ st.t 2 = .ptr b2 0 ∧ st.t 4 = .ptr b4 0 ∧ st.t 6 = .int .i64 j ∧ n = l.length - j ∧ j ≤ l.length ∧
    ∀ j' (h : j' < l.length), j' < j → decide (l[j'].id = i) = false) l.length ?_ ?_
  · refine ⟨0, by repeat (first | exact SExt.refl _ | (refine SExt.old ?_ (by simp only [*]) _)), rfl, by simp only [upd_apply, *, reduceIte], by simp only [upd_apply, *, reduceIte, zcells], rfl, rfl, rfl, rfl, by omega, by omega, by omega⟩
  · rintro n ⟨t1, s1, k1⟩ ⟨j, hs1, hk1, g2, g4, i1, i2, i4, i6, rfl, hj, hall⟩
    dsimp only at hs1 hk1 g2 g4 i1 i2 i4 i6
    subst hk1
    simp only [pvZ, lz, nz, rr_one, upd_apply, upd_upd, initT, optI, splice, reduceIte, reduceCtorEq, Nat.reduceEqDiff, Nat.reduceAdd, Nat.reduceSub, Nat.reduceMul, Nat.reduceLeDiff, Nat.reduceLT, Int.reduceLT, Int.reduceLE, Int.reduceToNat, Int.reduceEq, Int.cast_ofNat_Int, and_true, not_false_eq_true, g2, i1, i2, i4, i6]
    refine brC_in (fun hlt => ?_) (fun hge => ?_)
    · have hj' : j < l.length := by simpa using hlt
      have hg : (l.map encObj)[j]? = some (encObj l[j]) := objE.get hj'
      simp only [pvZ, lz, nz, rr_one, upd_apply, upd_upd, initT, optI, splice, reduceIte, reduceCtorEq, Nat.reduceEqDiff, Nat.reduceAdd, Nat.reduceSub, Nat.reduceMul, Nat.reduceLeDiff, Nat.reduceLT, Int.reduceLT, Int.reduceLE, Int.reduceToNat, Int.reduceEq, Int.cast_ofNat_Int, and_true, not_false_eq_true, g2, i1, i2, i4, i6, hg, id_obj]
      refine brC_in (fun hp1 => ?_) (fun hp0 => ?_)
      · have hF : objF l i = (l[j], true) := by rw [objF, find_first hj' hp1 hall]
        simp only [pvZ, lz, nz, rr_one, upd_apply, upd_upd, initT, optI, splice, reduceIte, reduceCtorEq, Nat.reduceEqDiff, Nat.reduceAdd, Nat.reduceSub, Nat.reduceMul, Nat.reduceLeDiff, Nat.reduceLT, Int.reduceLT, Int.reduceLE, Int.reduceToNat, Int.reduceEq, Int.cast_ofNat_Int, and_true, not_false_eq_true, g2, g4, i1, i2, i4, i6, hg, hF, len_encObj, wh_encObj, st_encObj, zcells]
        exact OutQ.eq (SExt.old hs1 h4.2 _) rfl
      · simp only [pvZ, lz, nz, rr_one, upd_apply, upd_upd, initT, optI, splice, reduceIte, reduceCtorEq, Nat.reduceEqDiff, Nat.reduceAdd, Nat.reduceSub, Nat.reduceMul, Nat.reduceLeDiff, Nat.reduceLT, Int.reduceLT, Int.reduceLE, Int.reduceToNat, Int.reduceEq, Int.cast_ofNat_Int, and_true, not_false_eq_true, g2, i1, i2, i4, i6]
        refine nextQ_normal (l.length - (j + 1)) (by omega) (St.le_refl _) ⟨j + 1, hs1, rfl, g2, g4, i1, i2, i4, ?_, rfl, by omega, fun j' hj1 hj2 => ?_⟩
        · simp only [upd_apply, Nat.reduceEqDiff, reduceIte]
          rw [wrap64 (by omega) (by omega)]
          rfl
        · by_cases h : j' = j
          · subst h; exact hp0
          · exact hall j' hj1 (by omega)
    · have hj' : ¬ j < l.length := by simpa using hge
      have hF : objF l i = (zeroObj, false) := by rw [objF, find_nothing fun j' h => hall j' h (by omega)]
      simp only [pvZ, lz, nz, rr_one, upd_apply, upd_upd, initT, optI, splice, reduceIte, reduceCtorEq, Nat.reduceEqDiff, Nat.reduceAdd, Nat.reduceSub, Nat.reduceMul, Nat.reduceLeDiff, Nat.reduceLT, Int.reduceLT, Int.reduceLE, Int.reduceToNat, Int.reduceEq, Int.cast_ofNat_Int, and_true, not_false_eq_true, g2, g4, i1, i2, i4, i6, hF, zcells]
      exact OutQ.le (SExt.old hs1 h4.2 _) (A.le_tup (.cons le_zero (.cons (A.le_refl _) .nil)))
theorem any_first {α : Type} {p : α → Bool} {l : List α} {i : Nat} (h : i < l.length) (hp : p l[i] = true) : l.any p = true := List.any_eq_true.2 ⟨l[i], List.getElem_mem h, hp⟩
theorem any_nothing {α : Type} {p : α → Bool} {l : List α} (hj : ∀ j (h : j < l.length), p l[j] = false) : l.any p = false := by
  rw [List.any_eq_false]
  intro x hx
  obtain ⟨j, h, rfl⟩ := List.getElem_of_mem hx
  rw [hj j h]
  simp
theorem key_tag (o : Tag) : (encTag o)[0]? = some (.str o.key) := rfl
theorem spec29 (l : List Tag) {s : Nat → Option Blk} {k : Nat → Tk} (hl : l.length < 4611686018427387904) : Spec prg 29 [.sl 2 (l.map encTag) .no] s k (.bool (l.any fun t => decide (t.key = nameB))) s k := by
  refine spec_tr prg_mixed tr_pref32_named (Nat.le_of_ble_eq_true rfl) rfl ?_
  unfold pc_pref32_named rs_pref32_named
  simp only [pvZ, lz, nz, rr_one, upd_apply, upd_upd, initT, optI, splice, reduceIte, reduceCtorEq, Nat.reduceEqDiff, Nat.reduceAdd, Nat.reduceSub, Nat.reduceMul, Nat.reduceLeDiff, Nat.reduceLT, Int.reduceLT, Int.reduceLE, Int.reduceToNat, Int.reduceEq, Int.cast_ofNat_Int, and_true, not_false_eq_true]
  refine loop_intro (fun n st => ∃ j : Nat, st.s = s ∧ st.k = k ∧ st.t 0 = .sl 2 (l.map encTag) .no ∧ st.t 3 = .int .i64 j ∧ n = l.length - j ∧ j ≤ l.length ∧ ∀ j' (h : j' < l.length), j' < j → decide (l[j'].key = nameB) = false) l.length ?_ ?_
  · exact ⟨0, rfl, rfl, rfl, rfl, by omega, by omega, by omega⟩
  · rintro n ⟨t1, s1, k1⟩ ⟨j, hs1, hk1, i0, i3, rfl, hj, hall⟩
    dsimp only at hs1 hk1 i0 i3
    subst hs1 hk1
    simp only [pvZ, lz, nz, rr_one, upd_apply, upd_upd, initT, optI, splice, reduceIte, reduceCtorEq, Nat.reduceEqDiff, Nat.reduceAdd, Nat.reduceSub, Nat.reduceMul, Nat.reduceLeDiff, Nat.reduceLT, Int.reduceLT, Int.reduceLE, Int.reduceToNat, Int.reduceEq, Int.cast_ofNat_Int, and_true, not_false_eq_true, i0, i3]
    refine brC_in (fun hlt => ?_) (fun hge => ?_)
    · have hj' : j < l.length := by simpa using hlt
      have hg : (l.map encTag)[j]? = some (encTag l[j]) := tagE.get hj'
      simp only [pvZ, lz, nz, rr_one, upd_apply, upd_upd, initT, optI, splice, reduceIte, reduceCtorEq, Nat.reduceEqDiff, Nat.reduceAdd, Nat.reduceSub, Nat.reduceMul, Nat.reduceLeDiff, Nat.reduceLT, Int.reduceLT, Int.reduceLE, Int.reduceToNat, Int.reduceEq, Int.cast_ofNat_Int, and_true, not_false_eq_true, i0, i3, hg, key_tag]
      refine brC_in (fun hp1 => ?_) (fun hp0 => ?_)
      · simp only [pvZ, lz, nz, rr_one, upd_apply, upd_upd, initT, optI, splice, reduceIte, reduceCtorEq, Nat.reduceEqDiff, Nat.reduceAdd, Nat.reduceSub, Nat.reduceMul, Nat.reduceLeDiff, Nat.reduceLT, Int.reduceLT, Int.reduceLE, Int.reduceToNat, Int.reduceEq, Int.cast_ofNat_Int, and_true, not_false_eq_true, i0, i3]
        rw [any_first hj' hp1]
        refine OutQ.eq (by repeat (first | exact SExt.refl _ | (refine SExt.old ?_ (by simp only [*]) _))) rfl
      · simp only [pvZ, lz, nz, rr_one, upd_apply, upd_upd, initT, optI, splice, reduceIte, reduceCtorEq, Nat.reduceEqDiff, Nat.reduceAdd, Nat.reduceSub, Nat.reduceMul, Nat.reduceLeDiff, Nat.reduceLT, Int.reduceLT, Int.reduceLE, Int.reduceToNat, Int.reduceEq, Int.cast_ofNat_Int, and_true, not_false_eq_true, i0, i3]
        refine nextQ_normal (l.length - (j + 1)) (by omega) (St.le_refl _) ⟨j + 1, rfl, rfl, i0, ?_, rfl, by omega, fun j' hj1 hj2 => ?_⟩
        · simp only [upd_apply, Nat.reduceEqDiff, reduceIte]
          rw [wrap64 (by omega) (by omega)]
          rfl
        · by_cases h : j' = j
          · subst h; exact hp0
          · exact hall j' hj1 (by omega)
    · have hj' : ¬ j < l.length := by simpa using hge
      simp only [pvZ, lz, nz, rr_one, upd_apply, upd_upd, initT, optI, splice, reduceIte, reduceCtorEq, Nat.reduceEqDiff, Nat.reduceAdd, Nat.reduceSub, Nat.reduceMul, Nat.reduceLeDiff, Nat.reduceLT, Int.reduceLT, Int.reduceLE, Int.reduceToNat, Int.reduceEq, Int.cast_ofNat_Int, and_true, not_false_eq_true, i0, i3]
      rw [any_nothing fun j' h => hall j' h (by omega)]
      refine OutQ.eq (by repeat (first | exact SExt.refl _ | (refine SExt.old ?_ (by simp only [*]) _))) rfl
def ronF (x y : Int) : Bool := decide (0 ≤ x) && decide (x < 1048576) && decide (0 ≤ y) && decide (y < 1048576)
theorem spec30 (x y : Int) {s : Nat → Option Blk} {k : Nat → Tk} : Spec prg 30 [.agg [.int .i64 x, .int .i64 y]] s k (.bool (ronF x y)) s k := by
  refine spec_tr prg_mixed tr_pref32_on (Nat.le_of_ble_eq_true rfl) rfl ?_
  unfold pc_pref32_on rs_pref32_on
  repeat' (first | (with_reducible refine newS_in ?_; intro _ hid_; simp only [upd_none] at hid_) | (with_reducible refine brC_in (fun h_ => ?_) (fun h_ => ?_)) | (with_reducible refine brG_in (fun h_ => ?_) (fun h_ => ?_)) | (with_reducible refine brN_in (fun h_ => ?_) (fun h_ => ?_)) | simp only [pvZ, lz, nz, rr_one, upd_apply, upd_upd, initT, optI, splice, reduceIte, reduceCtorEq, Nat.reduceEqDiff, Nat.reduceAdd, Nat.reduceSub, Nat.reduceMul, Nat.reduceLeDiff, Nat.reduceLT, Int.reduceLT, Int.reduceLE, Int.reduceToNat, Int.reduceEq, Int.cast_ofNat_Int, and_true, not_false_eq_true, *])
  all_goals (refine OutQ.eq (by repeat (first | exact SExt.refl _ | (refine SExt.old ?_ (by simp only [*]) _))) ?_)
  all_goals first | (simp_all [ronF]; done) | (simp_all [ronF]; omega)
theorem spec31 (a b : List Tag) {s : Nat → Option Blk} {k : Nat → Tk} (hl : a.length < 4611686018427387904) : Spec prg 31 [.sl 2 (a.map encTag) .no, .sl 2 (b.map encTag) .no] s k (.bool (decide (a = b))) s k := by
  refine spec_tr prg_mixed tr_pref32_tags (Nat.le_of_ble_eq_true rfl) rfl ?_
  unfold pc_pref32_tags rs_pref32_tags
  repeat' (first | (with_reducible refine newS_in ?_; intro _ hid_; simp only [upd_none] at hid_) | (with_reducible refine brC_in (fun h_ => ?_) (fun h_ => ?_)) | (with_reducible refine brG_in (fun h_ => ?_) (fun h_ => ?_)) | (with_reducible refine brN_in (fun h_ => ?_) (fun h_ => ?_)) | simp only [pvZ, lz, nz, rr_one, upd_apply, upd_upd, initT, optI, splice, reduceIte, reduceCtorEq, Nat.reduceEqDiff, Nat.reduceAdd, Nat.reduceSub, Nat.reduceMul, Nat.reduceLeDiff, Nat.reduceLT, Int.reduceLT, Int.reduceLE, Int.reduceToNat, Int.reduceEq, Int.cast_ofNat_Int, and_true, not_false_eq_true, *])
  · have : a ≠ b := fun e => by subst e; simp at h_
    refine OutQ.eq (by repeat (first | exact SExt.refl _ | (refine SExt.old ?_ (by simp only [*]) _))) ?_
    simp [this]
  have hlen : a.length = b.length := by
    simp at h_
    omega
  refine loop_intro (fun m st => ∃ i, st.s = s ∧ st.k = k ∧ st.t 0 = .sl 2 (a.map encTag) .no ∧ st.t 1 = .sl 2 (b.map encTag) .no ∧ st.t 5 = .int .i64 (i : Nat) ∧ m = a.length - i ∧ i ≤ a.length ∧ ∀ j (h : j < a.length) (h2 : j < b.length), j < i → a[j] = b[j]) a.length ?_ ?_
  · exact ⟨0, rfl, rfl, rfl, rfl, rfl, by omega, by omega, by omega⟩
  · rintro m ⟨t, s1, k1⟩ ⟨i, hs1, hk1, h0, h1, h5, rfl, hi, hj⟩
    dsimp only at hs1 hk1 h0 h1 h5
    subst hs1 hk1
    clear h_
    simp only [pvZ, lz, nz, rr_one, upd_apply, upd_upd, initT, optI, splice, reduceIte, reduceCtorEq, Nat.reduceEqDiff, Nat.reduceAdd, Nat.reduceSub, Nat.reduceMul, Nat.reduceLeDiff, Nat.reduceLT, Int.reduceLT, Int.reduceLE, Int.reduceToNat, Int.reduceEq, Int.cast_ofNat_Int, and_true, not_false_eq_true, h0, h1, h5]
    refine brC_in (fun hlt => ?_) (fun hge => ?_)
    · have hi' : i < a.length := by simpa using hlt
      have ga : (a.map encTag)[i]? = some (encTag a[i]) := tagE.get hi'
      have gb : (b.map encTag)[i]? = some (encTag b[i]) := tagE.get (by omega)
      simp only [pvZ, lz, nz, rr_one, upd_apply, upd_upd, initT, optI, splice, reduceIte, reduceCtorEq, Nat.reduceEqDiff, Nat.reduceAdd, Nat.reduceSub, Nat.reduceMul, Nat.reduceLeDiff, Nat.reduceLT, Int.reduceLT, Int.reduceLE, Int.reduceToNat, Int.reduceEq, Int.cast_ofNat_Int, and_true, not_false_eq_true, h0, h1, h5, ga, gb, len_encTag, wh_encTag, fit_tag, eq_tag]
      refine brC_in (fun hp1 => ?_) (fun hp0 => ?_)
      · have : a ≠ b := fun e => by subst e; simp at hp1
        simp only [pvZ, lz, nz, rr_one, upd_apply, upd_upd, initT, optI, splice, reduceIte, reduceCtorEq, Nat.reduceEqDiff, Nat.reduceAdd, Nat.reduceSub, Nat.reduceMul, Nat.reduceLeDiff, Nat.reduceLT, Int.reduceLT, Int.reduceLE, Int.reduceToNat, Int.reduceEq, Int.cast_ofNat_Int, and_true, not_false_eq_true, h0, h1, h5]
        refine OutQ.eq (by repeat (first | exact SExt.refl _ | (refine SExt.old ?_ (by simp only [*]) _))) ?_
        simp [this]
      · simp only [pvZ, lz, nz, rr_one, upd_apply, upd_upd, initT, optI, splice, reduceIte, reduceCtorEq, Nat.reduceEqDiff, Nat.reduceAdd, Nat.reduceSub, Nat.reduceMul, Nat.reduceLeDiff, Nat.reduceLT, Int.reduceLT, Int.reduceLE, Int.reduceToNat, Int.reduceEq, Int.cast_ofNat_Int, and_true, not_false_eq_true, h0, h1, h5]
        refine nextQ_normal (a.length - (i + 1)) (by omega) (St.le_refl _) ⟨i + 1, rfl, rfl, h0, h1, ?_, rfl, by omega, fun j hj1 hj2 hj3 => ?_⟩
        · simp only [upd_apply, Nat.reduceEqDiff, reduceIte]
          rw [wrap64 (by omega) (by omega)]
          rfl
        · by_cases h : j = i
          · subst h; simpa using hp0
          · exact hj j hj1 hj2 (by omega)
    · have hi' : ¬ i < a.length := by simpa using hge
      have : a = b := list_eq_of_get hlen fun j h1 h2 => hj j h1 h2 (by omega)
      simp only [pvZ, lz, nz, rr_one, upd_apply, upd_upd, initT, optI, splice, reduceIte, reduceCtorEq, Nat.reduceEqDiff, Nat.reduceAdd, Nat.reduceSub, Nat.reduceMul, Nat.reduceLeDiff, Nat.reduceLT, Int.reduceLT, Int.reduceLE, Int.reduceToNat, Int.reduceEq, Int.cast_ofNat_Int, and_true, not_false_eq_true, h0, h1, h5]
      refine OutQ.eq (by repeat (first | exact SExt.refl _ | (refine SExt.old ?_ (by simp only [*]) _))) ?_
      simp [this]
end Go.Pv
