/- VerifyOthers: Names, In. -/
import Derived.Test.YtgmdhegbkbeihaaLawR
set_option linter.unusedVariables false
set_option linter.unusedSimpArgs false
set_option maxRecDepth 4000
set_option maxHeartbeats 1000000
namespace Go.Pv
open Go

theorem spec12 (l : List ByteArray) (i : ByteArray) (hl : l.length < 4611686018427387904) {s : Nat → Option Blk} {k : Nat → Tk} : Spec prg 12 [.sl 1 (l.map encStr) .no, .str i] s k (.bool (l.any fun x => decide (x = i))) s k := by
  refine spec_tr prg_mixed tr_pref12_In (Nat.le_of_ble_eq_true rfl) rfl ?_
  unfold pc_pref12_In rs_pref12_In
  simp only [pvZ, lz, nz, rr_one, upd_apply, upd_upd, initT, optI, splice, reduceIte, reduceCtorEq, Nat.reduceEqDiff, Nat.reduceAdd, Nat.reduceSub, Nat.reduceMul, Nat.reduceLeDiff, Nat.reduceLT, Int.reduceLT, Int.reduceLE, Int.reduceToNat, Int.reduceEq, Int.cast_ofNat_Int, and_true, not_false_eq_true]
  refine loop_intro (fun n st => ∃ j : Nat, st.s = s ∧ st.k = k ∧ st.t 0 = .sl 1 (l.map encStr) .no ∧ st.t 1 = .str i ∧ st.t 5 = .int .i64 j ∧ n = l.length - j ∧ j ≤ l.length ∧ ∀ j' (h : j' < l.length), j' < j → decide (l[j'] = i) = false) l.length ?_ ?_
  · exact ⟨0, rfl, rfl, rfl, rfl, rfl, by omega, by omega, by omega⟩
  · rintro n ⟨t1, s1, k1⟩ ⟨j, hs1, hk1, g0, g1, g5, rfl, hj, hall⟩
    dsimp only at hs1 hk1 g0 g1 g5
    subst hs1 hk1
    simp only [pvZ, lz, nz, rr_one, upd_apply, upd_upd, initT, optI, splice, reduceIte, reduceCtorEq, Nat.reduceEqDiff, Nat.reduceAdd, Nat.reduceSub, Nat.reduceMul, Nat.reduceLeDiff, Nat.reduceLT, Int.reduceLT, Int.reduceLE, Int.reduceToNat, Int.reduceEq, Int.cast_ofNat_Int, and_true, not_false_eq_true, g0, g1, g5]
    refine brC_in (fun hlt => ?_) (fun hge => ?_)
    · have hj' : j < l.length := by simpa using hlt
      have hg : (l.map encStr)[j]? = some (encStr l[j]) := strE.get hj'
      simp only [pvZ, lz, nz, rr_one, upd_apply, upd_upd, initT, optI, splice, reduceIte, reduceCtorEq, Nat.reduceEqDiff, Nat.reduceAdd, Nat.reduceSub, Nat.reduceMul, Nat.reduceLeDiff, Nat.reduceLT, Int.reduceLT, Int.reduceLE, Int.reduceToNat, Int.reduceEq, Int.cast_ofNat_Int, and_true, not_false_eq_true, g0, g1, g5, hg, get_str]
      refine brC_in (fun hp1 => ?_) (fun hp0 => ?_)
      · simp only [pvZ, lz, nz, rr_one, upd_apply, upd_upd, initT, optI, splice, reduceIte, reduceCtorEq, Nat.reduceEqDiff, Nat.reduceAdd, Nat.reduceSub, Nat.reduceMul, Nat.reduceLeDiff, Nat.reduceLT, Int.reduceLT, Int.reduceLE, Int.reduceToNat, Int.reduceEq, Int.cast_ofNat_Int, and_true, not_false_eq_true]
        rw [any_first hj' hp1]
        refine OutQ.eq (by repeat (first | exact SExt.refl _ | (refine SExt.old ?_ (by simp only [*]) _))) rfl
      · simp only [pvZ, lz, nz, rr_one, upd_apply, upd_upd, initT, optI, splice, reduceIte, reduceCtorEq, Nat.reduceEqDiff, Nat.reduceAdd, Nat.reduceSub, Nat.reduceMul, Nat.reduceLeDiff, Nat.reduceLT, Int.reduceLT, Int.reduceLE, Int.reduceToNat, Int.reduceEq, Int.cast_ofNat_Int, and_true, not_false_eq_true, g0, g1, g5]
        refine nextQ_normal (l.length - (j + 1)) (by omega) (St.le_refl _) ⟨j + 1, rfl, rfl, g0, g1, ?_, rfl, by omega, fun j' hj1 hj2 => ?_⟩
        · simp only [upd_apply, Nat.reduceEqDiff, reduceIte]
          rw [wrap64 (by omega) (by omega)]
          rfl
        · by_cases h : j' = j
          · subst h; exact hp0
          · exact hall j' hj1 (by omega)
    · have hj' : ¬ j < l.length := by simpa using hge
      simp only [pvZ, lz, nz, rr_one, upd_apply, upd_upd, initT, optI, splice, reduceIte, reduceCtorEq, Nat.reduceEqDiff, Nat.reduceAdd, Nat.reduceSub, Nat.reduceMul, Nat.reduceLeDiff, Nat.reduceLT, Int.reduceLT, Int.reduceLE, Int.reduceToNat, Int.reduceEq, Int.cast_ofNat_Int, and_true, not_false_eq_true]
      rw [any_nothing fun j' h => hall j' h (by omega)]
      refine OutQ.eq (by repeat (first | exact SExt.refl _ | (refine SExt.old ?_ (by simp only [*]) _))) rfl
def nameAt (l : List Edit) (x : Int) : Option ByteArray := if 0 ≤ x ∧ x < l.length then (l[x.toNat]?).map (·.id) else none
def namesF (l : List Edit) (es : List Int) : List ByteArray := es.filterMap (nameAt l)
theorem id_edit (e : Edit) : (encEdit e)[1]? = some (.str e.id) := rfl
theorem namesF_take (l : List Edit) (es : List Int) {j : Nat} (h : j < es.length) : namesF l (es.take (j + 1)) = namesF l (es.take j) ++ (match nameAt l es[j] with | some x => [x] | none => []) := by
  unfold namesF
  rw [List.take_succ_eq_append_getElem h, List.filterMap_append]
  congr 1
  cases hn : nameAt l es[j] <;> simp [hn]
theorem namesF_len (l : List Edit) (es : List Int) : (namesF l es).length ≤ es.length := List.length_filterMap_le _ _
theorem spec11 (l : List Edit) (e : Evid) (hl : l.length < 4611686018427387904) (hes : e.edits.length ≤ 10) {s : Nat → Option Blk} {k : Nat → Tk} : Spec prg 11 [.sl 15 (l.map encEdit) .no, .agg (encEvid e)] s k (.sl 1 ((namesF l e.edits).map encStr) .no) s k := by
  refine spec_tr prg_mixed tr_pref32_Names (Nat.le_of_ble_eq_true rfl) rfl ?_
  unfold pc_pref32_Names rs_pref32_Names
  obtain ⟨kd, es⟩ := e
  dsimp only at hes ⊢
  simp only [pvZ, lz, nz, rr_one, upd_apply, upd_upd, initT, optI, splice, reduceIte, reduceCtorEq, Nat.reduceEqDiff, Nat.reduceAdd, Nat.reduceSub, Nat.reduceMul, Nat.reduceLeDiff, Nat.reduceLT, Int.reduceLT, Int.reduceLE, Int.reduceToNat, Int.reduceEq, Int.cast_ofNat_Int, and_true, not_false_eq_true, encEvid]
  (with_reducible refine newS_in ?_); intro b3 h3; simp only [upd_none] at h3
  simp only [pvZ, lz, nz, rr_one, upd_apply, upd_upd, initT, optI, splice, reduceIte, reduceCtorEq, Nat.reduceEqDiff, Nat.reduceAdd, Nat.reduceSub, Nat.reduceMul, Nat.reduceLeDiff, Nat.reduceLT, Int.reduceLT, Int.reduceLE, Int.reduceToNat, Int.reduceEq, Int.cast_ofNat_Int, and_true, not_false_eq_true]
  refine loop_intro (fun n st => ∃ (j : Nat) (tok : Tok), st.s = upd s b3 (some (.cells (encEvid ⟨kd, es⟩))) ∧ KExt k st.k ∧ st.t 0 = .sl 15 (l.map encEdit) .no ∧ st.t 3 = .ptr b3 0 ∧ st.t 5 = .sl 1 ((namesF l (es.take j)).map encStr) tok ∧ st.t 6 = .int .i64 j ∧ n = es.length - j ∧ j ≤ es.length ∧
    ((tok = .nil) ∨ ∃ g, tok = .own g 9 ∧ st.k g = .live ∧ k g = .unused)) es.length ?_ ?_
  · exact ⟨0, .nil, rfl, KExt.refl _, rfl, rfl, rfl, rfl, by omega, by omega, .inl rfl⟩
  · rintro n ⟨t1, s1, k1⟩ ⟨j, tok, hs1, hk1, g0, g3, g5, g6, rfl, hj, htok⟩
    dsimp only at hs1 hk1 g0 g3 g5 g6 htok
    subst hs1
    simp only [pvZ, lz, nz, rr_one, upd_apply, upd_upd, initT, optI, splice, reduceIte, reduceCtorEq, Nat.reduceEqDiff, Nat.reduceAdd, Nat.reduceSub, Nat.reduceMul, Nat.reduceLeDiff, Nat.reduceLT, Int.reduceLT, Int.reduceLE, Int.reduceToNat, Int.reduceEq, Int.cast_ofNat_Int, and_true, not_false_eq_true, g3, g6, encEvid]
    refine brC_in (fun hlt => ?_) (fun hge => ?_)
    · have hj' : j < es.length := by simpa using hlt
      have hg : (es.map encInt)[j]? = some (encInt es[j]) := intE.get hj'
      have hnt := namesF_take l es hj'
      have hnl := namesF_len l (es.take j)
      rw [List.length_take] at hnl
      have again : namesF l (es.take (j + 1)) = namesF l (es.take j) → ∀ t2 : Nat → A, t2 0 = t1 0 → t2 3 = t1 3 → t2 5 = t1 5 → t2 6 = .int .i64 ((j + 1 : Nat) : Int) → ∃ (j' : Nat) (tok : Tok), upd s b3 (some (.cells (encEvid ⟨kd, es⟩))) = upd s b3 (some (.cells (encEvid ⟨kd, es⟩))) ∧ KExt k k1 ∧ t2 0 = .sl 15 (l.map encEdit) .no ∧ t2 3 = .ptr b3 0 ∧
          t2 5 = .sl 1 ((namesF l (es.take j')).map encStr) tok ∧ t2 6 = .int .i64 j' ∧ es.length - (j + 1) = es.length - j' ∧ j' ≤ es.length ∧ ((tok = .nil) ∨ ∃ g, tok = .own g 9 ∧ k1 g = .live ∧ k g = .unused) := by
        intro hn t2 e0 e3 e5 e6
        exact ⟨j + 1, tok, rfl, hk1, by rw [e0, g0], by rw [e3, g3], by rw [e5, g5, hn], e6, rfl, by omega, htok⟩
      by_cases c1 : 0 ≤ es[j]
      · by_cases c2 : es[j] < l.length
        · obtain ⟨x, hx⟩ : ∃ x : Nat, es[j] = x := ⟨es[j].toNat, by omega⟩
          rw [hx] at c1 c2 hg hnt
          have hxl : x < l.length := by omega
          have hgx : (l.map encEdit)[x]? = some (encEdit l[x]) := editE.get hxl
          have hna : nameAt l (x : Int) = some l[x].id := by
            unfold nameAt
            rw [if_pos ⟨c1, c2⟩, Int.toNat_natCast, List.getElem?_eq_getElem hxl]
            rfl
          rw [hna] at hnt
          simp only [pvZ, lz, nz, rr_one, upd_apply, upd_upd, initT, optI, splice, reduceIte, reduceCtorEq, Nat.reduceEqDiff, Nat.reduceAdd, Nat.reduceSub, Nat.reduceMul, Nat.reduceLeDiff, Nat.reduceLT, Int.reduceLT, Int.reduceLE, Int.reduceToNat, Int.reduceEq, Int.cast_ofNat_Int, and_true, not_false_eq_true, g0, g3, g5, g6, encEvid, hg, encInt, c1, c2, hgx, id_edit]
          refine ⟨.inl rfl, .inl rfl, ?_, ?_, fun h => by simp at h, fun _ g hgu => ?_⟩
          · rcases htok with rfl | ⟨g, rfl, hg, _⟩
            · trivial
            · exact ⟨rfl, hg⟩
          · simp
            omega
          · simp only [pvZ, lz, nz, rr_one, upd_apply, upd_upd, initT, optI, splice, reduceIte, reduceCtorEq, Nat.reduceEqDiff, Nat.reduceAdd, Nat.reduceSub, Nat.reduceMul, Nat.reduceLeDiff, Nat.reduceLT, Int.reduceLT, Int.reduceLE, Int.reduceToNat, Int.reduceEq, Int.cast_ofNat_Int, and_true, not_false_eq_true, g0, g3, g5, g6]
            refine nextQ_normal (es.length - (j + 1)) (by omega) (St.le_refl _) ⟨j + 1, .own g 9, rfl, ?_, ?_, ?_, ?_, ?_, rfl, by omega, .inr ⟨g, rfl, by simp [upd_apply], hk1.unused hgu⟩⟩
            · refine KExt.old ?_ (hk1.unused hgu) _
              rcases htok with rfl | ⟨g', rfl, _, hu⟩
              · exact hk1
              · exact hk1.old hu _
            · simp only [upd_apply, Nat.reduceEqDiff, reduceIte]; exact g0
            · simp only [upd_apply, Nat.reduceEqDiff, reduceIte]; exact g3
            · simp only [upd_apply, Nat.reduceEqDiff, reduceIte]; rw [hnt, List.map_append]; rfl
            · simp only [upd_apply, Nat.reduceEqDiff, reduceIte]
              rw [wrap64 (by omega) (by omega)]
              rfl
        · have hna : nameAt l es[j] = none := by
            unfold nameAt
            rw [if_neg (fun h => c2 h.2)]
          rw [hna, List.append_nil] at hnt
          simp only [pvZ, lz, nz, rr_one, upd_apply, upd_upd, initT, optI, splice, reduceIte, reduceCtorEq, Nat.reduceEqDiff, Nat.reduceAdd, Nat.reduceSub, Nat.reduceMul, Nat.reduceLeDiff, Nat.reduceLT, Int.reduceLT, Int.reduceLE, Int.reduceToNat, Int.reduceEq, Int.cast_ofNat_Int, and_true, not_false_eq_true, g0, g3, g5, g6, encEvid, hg, encInt, c1, c2]
          refine nextQ_normal (es.length - (j + 1)) (by omega) (St.le_refl _) (again hnt _ ?_ ?_ ?_ ?_)
          · simp only [upd_apply, Nat.reduceEqDiff, reduceIte]
          · simp only [upd_apply, Nat.reduceEqDiff, reduceIte]
          · simp only [upd_apply, Nat.reduceEqDiff, reduceIte]
          · simp only [upd_apply, Nat.reduceEqDiff, reduceIte]
            rw [wrap64 (by omega) (by omega)]
            rfl
      · have hna : nameAt l es[j] = none := by
          unfold nameAt
          rw [if_neg (fun h => c1 h.1)]
        rw [hna, List.append_nil] at hnt
        simp only [pvZ, lz, nz, rr_one, upd_apply, upd_upd, initT, optI, splice, reduceIte, reduceCtorEq, Nat.reduceEqDiff, Nat.reduceAdd, Nat.reduceSub, Nat.reduceMul, Nat.reduceLeDiff, Nat.reduceLT, Int.reduceLT, Int.reduceLE, Int.reduceToNat, Int.reduceEq, Int.cast_ofNat_Int, and_true, not_false_eq_true, g0, g3, g5, g6, encEvid, hg, encInt, c1]
        refine nextQ_normal (es.length - (j + 1)) (by omega) (St.le_refl _) (again hnt _ ?_ ?_ ?_ ?_)
        · simp only [upd_apply, Nat.reduceEqDiff, reduceIte]
        · simp only [upd_apply, Nat.reduceEqDiff, reduceIte]
        · simp only [upd_apply, Nat.reduceEqDiff, reduceIte]
        · simp only [upd_apply, Nat.reduceEqDiff, reduceIte]
          rw [wrap64 (by omega) (by omega)]
          rfl
    · have hj' : ¬ j < es.length := by simpa using hge
      have hje : j = es.length := by omega
      subst hje
      simp only [pvZ, lz, nz, rr_one, upd_apply, upd_upd, initT, optI, splice, reduceIte, reduceCtorEq, Nat.reduceEqDiff, Nat.reduceAdd, Nat.reduceSub, Nat.reduceMul, Nat.reduceLeDiff, Nat.reduceLT, Int.reduceLT, Int.reduceLE, Int.reduceToNat, Int.reduceEq, Int.cast_ofNat_Int, and_true, not_false_eq_true, g5]
      rw [List.take_length]
      exact OutQ.lek (by repeat (first | exact SExt.refl _ | (refine SExt.old ?_ (by simp only [*]) _))) hk1 (le_strip_no _ _ _)
end Go.Pv
