/- Few maps. -/
import Derived.Test.YtlcacobkiglmbaaEvG
set_option linter.unusedVariables false
set_option linter.unusedSimpArgs false
set_option maxRecDepth 4000
set_option maxHeartbeats 2000000
namespace Go.Pv
open Go

theorem all_first {α : Type} {p : α → Bool} {l : List α} {i : Nat} (h : i < l.length) (hp : p l[i] = false) : l.all p = false := by
  rw [List.all_eq_false]
  exact ⟨l[i], List.getElem_mem h, by rw [hp]; simp⟩
theorem all_through {α : Type} {p : α → Bool} {l : List α} (hj : ∀ j (h : j < l.length), p l[j] = true) : l.all p = true := by
  rw [List.all_eq_true]
  intro x hx
  obtain ⟨j, h, rfl⟩ := List.getElem_of_mem hx
  exact hj j h
def shortS (n : Int) (r : ByteArray) : Bool := !decide (n < r.size)
def shortT (n : Int) (t : Tag) : Bool := !decide (n < IntKind.i64.wrap ((t.key.size : Int) + t.val.size))
theorem get_key (t : Tag) : (encTag t)[0]? = some (.str t.key) := rfl
theorem get_val (t : Tag) : (encTag t)[1]? = some (.str t.val) := rfl
noncomputable def f14aC : PC := (.seq (.seq (.reg [⟨(.some 42), .none, (.mv (.t 7))⟩, ⟨(.some 43), .none, (.fld 4 (.t 6))⟩, ⟨(.some 44), .none, (.load .none (.t 43))⟩, ⟨(.some 45), .none, (.len false (.t 44))⟩, ⟨(.some 46), .none, (.bin .lss (.t 42) (.t 45))⟩] false .none) (.cond (.t 46) .skip (.exit 2))) (.seq (.block 3 (.seq (.reg [⟨(.some 49), .none, (.fld 4 (.t 6))⟩, ⟨(.some 50), .none, (.load .none (.t 49))⟩, ⟨(.some 51), .none, (.mv (.t 7))⟩, ⟨(.some 52), .none, (.idx 1 (.t 50) (.t 51))⟩, ⟨(.some 53), .none, (.load .none (.t 52))⟩, ⟨(.some 54), .none, (.len true (.t 53))⟩, ⟨(.some 55), .none, (.bin .gtr (.t 54) (.c (.int .i64 60)))⟩] false .none) (.cond (.t 55) (.seq (.reg [⟨(.some 4), .none, (.mv (.c (.bool false)))⟩] false .none) .ret) .skip))) (.reg [⟨(.some 47), .none, (.mv (.t 7))⟩, ⟨(.some 48), .none, (.bin .add (.t 47) (.c (.int .i64 1)))⟩, ⟨(.some 7), .none, (.mv (.t 48))⟩] false .none)))
theorem f14a (o : Obj) {b : Nat} {s : Nat → Option Blk} {k : Nat → Tk} {t : Nat → A} {Q : PX → St → Prop} (hl : o.refs.length < 4611686018427387904) (hb : t 6 = .ptr b 0) (hi : t 7 = .int .i64 0) (sb : s b = some (.cells (encObj o)))
    (hfail : o.refs.all (shortS 60) = false → ∀ t', t' 4 = .bool false → Q .ret ⟨t', s, k⟩) (hok : o.refs.all (shortS 60) = true → ∀ t', t' 2 = t 2 → t' 5 = t 5 → t' 6 = t 6 → Q (.exit 2) ⟨t', s, k⟩) : pwp prg (.loop f14aC) Q ⟨t, s, k⟩ := by
  refine loop_intro (fun n st => ∃ j : Nat, st.s = s ∧ st.k = k ∧ st.t 2 = t 2 ∧ st.t 5 = t 5 ∧ st.t 6 = t 6 ∧ st.t 7 = .int .i64 j ∧ n = o.refs.length - j ∧ j ≤ o.refs.length ∧ ∀ i (h : i < o.refs.length), i < j → shortS 60 o.refs[i] = true) o.refs.length ?_ ?_
  · exact ⟨0, rfl, rfl, rfl, rfl, rfl, hi, by omega, by omega, by omega⟩
  · rintro n ⟨t1, s1, k1⟩ ⟨j, hs1, hk1, f2, f5, f6, gi, rfl, hj, hall⟩
    dsimp only at hs1 hk1 f2 f5 f6 gi
    subst hs1 hk1
    have gb : t1 6 = .ptr b 0 := by rw [f6, hb]
    unfold f14aC
    simp only [sZ, initT, optI, splice, reduceIte, reduceCtorEq, Nat.reduceEqDiff, Nat.reduceAdd, Nat.reduceSub, Nat.reduceMul, Nat.reduceLeDiff, Nat.reduceLT, Int.reduceLT, Int.reduceLE, Int.reduceToNat, Int.reduceEq, Int.cast_ofNat_Int, gb, gi, sb, encObj]
    refine brC_in (fun hlt => ?_) (fun hge => ?_)
    · have hj' : j < o.refs.length := by simpa using hlt
      have hg : (o.refs.map strE.f)[j]? = some (strE.f o.refs[j]) := strE.get hj'
      simp only [strE] at hg
      simp only [sZ, initT, optI, splice, reduceIte, reduceCtorEq, Nat.reduceEqDiff, Nat.reduceAdd, Nat.reduceSub, Nat.reduceMul, Nat.reduceLeDiff, Nat.reduceLT, Int.reduceLT, Int.reduceLE, Int.reduceToNat, Int.reduceEq, Int.cast_ofNat_Int, gb, gi, sb, encObj, hg, get_str]
      refine brC_in (fun hp1 => ?_) (fun hp0 => ?_)
      · simp only [sZ, initT, optI, splice, reduceIte, reduceCtorEq, Nat.reduceEqDiff, Nat.reduceAdd, Nat.reduceSub, Nat.reduceMul, Nat.reduceLeDiff, Nat.reduceLT, Int.reduceLT, Int.reduceLE, Int.reduceToNat, Int.reduceEq, Int.cast_ofNat_Int]
        refine hfail (all_first hj' ?_) _ ?_
        · simp only [shortS, shortT, hp1, Bool.not_true]
        · simp only [upd_apply, Nat.reduceEqDiff, reduceIte]
      · simp only [sZ, initT, optI, splice, reduceIte, reduceCtorEq, Nat.reduceEqDiff, Nat.reduceAdd, Nat.reduceSub, Nat.reduceMul, Nat.reduceLeDiff, Nat.reduceLT, Int.reduceLT, Int.reduceLE, Int.reduceToNat, Int.reduceEq, Int.cast_ofNat_Int, gb, gi]
        refine nextQ_normal (o.refs.length - (j + 1)) (by omega) (St.le_refl _) ⟨j + 1, rfl, rfl, ?_, ?_, ?_, ?_, rfl, by omega, fun i hi1 hi2 => ?_⟩
        · simp only [upd_apply, Nat.reduceEqDiff, reduceIte]; exact f2
        · simp only [upd_apply, Nat.reduceEqDiff, reduceIte]; exact f5
        · simp only [upd_apply, Nat.reduceEqDiff, reduceIte]; exact f6
        · simp only [upd_apply, Nat.reduceEqDiff, reduceIte]
          rw [wrap64 (by omega) (by omega)]
          rfl
        · by_cases h : i = j
          · subst h; simp only [shortS, shortT, hp0, Bool.not_false]
          · exact hall i hi1 (by omega)
    · have hj' : ¬ j < o.refs.length := by simpa using hge
      simp only [sZ, initT, optI, splice, reduceIte, reduceCtorEq, Nat.reduceEqDiff, Nat.reduceAdd, Nat.reduceSub, Nat.reduceMul, Nat.reduceLeDiff, Nat.reduceLT, Int.reduceLT, Int.reduceLE, Int.reduceToNat, Int.reduceEq, Int.cast_ofNat_Int]
      refine hok (all_through fun i h => hall i h (by omega)) _ ?_ ?_ ?_
      · simp only [upd_apply, Nat.reduceEqDiff, reduceIte]; exact f2
      · simp only [upd_apply, Nat.reduceEqDiff, reduceIte]; exact f5
      · simp only [upd_apply, Nat.reduceEqDiff, reduceIte]; exact f6
noncomputable def f14bC : PC := (.seq (.seq (.reg [⟨(.some 56), .none, (.mv (.t 8))⟩, ⟨(.some 57), .none, (.fld 5 (.t 6))⟩, ⟨(.some 58), .none, (.load .none (.t 57))⟩, ⟨(.some 59), .none, (.len false (.t 58))⟩, ⟨(.some 60), .none, (.bin .lss (.t 56) (.t 59))⟩] false .none) (.cond (.t 60) .skip (.exit 4))) (.seq (.block 5 (.seq (.reg [⟨(.some 63), .none, (.fld 5 (.t 6))⟩, ⟨(.some 64), .none, (.load .none (.t 63))⟩, ⟨(.some 65), .none, (.mv (.t 8))⟩, ⟨(.some 66), .none, (.idx 2 (.t 64) (.t 65))⟩, ⟨(.some 67), .none, (.fld 0 (.t 66))⟩, ⟨(.some 68), .none, (.load .none (.t 67))⟩, ⟨(.some 69), .none, (.len true (.t 68))⟩, ⟨(.some 70), .none, (.fld 5 (.t 6))⟩, ⟨(.some 71), .none, (.load .none (.t 70))⟩, ⟨(.some 72), .none, (.mv (.t 8))⟩, ⟨(.some 73), .none, (.idx 2 (.t 71) (.t 72))⟩, ⟨(.some 74), .none, (.fld 1 (.t 73))⟩, ⟨(.some 75), .none, (.load .none (.t 74))⟩, ⟨(.some 76), .none, (.len true (.t 75))⟩, ⟨(.some 77), .none, (.bin .add (.t 69) (.t 76))⟩, ⟨(.some 78), .none, (.bin .gtr (.t 77) (.c (.int .i64 300)))⟩] true .none) (.cond (.t 78) (.seq (.reg [⟨(.some 4), .none, (.mv (.c (.bool false)))⟩] false .none) .ret) .skip))) (.reg [⟨(.some 61), .none, (.mv (.t 8))⟩, ⟨(.some 62), .none, (.bin .add (.t 61) (.c (.int .i64 1)))⟩, ⟨(.some 8), .none, (.mv (.t 62))⟩] false .none)))
theorem f14b (o : Obj) {b : Nat} {s : Nat → Option Blk} {k : Nat → Tk} {t : Nat → A} {Q : PX → St → Prop} (hl : o.tags.length < 4611686018427387904) (hb : t 6 = .ptr b 0) (hi : t 8 = .int .i64 0) (sb : s b = some (.cells (encObj o)))
    (hfail : o.tags.all (shortT 300) = false → ∀ t', t' 4 = .bool false → Q .ret ⟨t', s, k⟩) (hok : o.tags.all (shortT 300) = true → ∀ t', t' 2 = t 2 → t' 5 = t 5 → t' 6 = t 6 → Q (.exit 4) ⟨t', s, k⟩) : pwp prg (.loop f14bC) Q ⟨t, s, k⟩ := by
  refine loop_intro (fun n st => ∃ j : Nat, st.s = s ∧ st.k = k ∧ st.t 2 = t 2 ∧ st.t 5 = t 5 ∧ st.t 6 = t 6 ∧ st.t 8 = .int .i64 j ∧ n = o.tags.length - j ∧ j ≤ o.tags.length ∧ ∀ i (h : i < o.tags.length), i < j → shortT 300 o.tags[i] = true) o.tags.length ?_ ?_
  · exact ⟨0, rfl, rfl, rfl, rfl, rfl, hi, by omega, by omega, by omega⟩
  · rintro n ⟨t1, s1, k1⟩ ⟨j, hs1, hk1, f2, f5, f6, gi, rfl, hj, hall⟩
    dsimp only at hs1 hk1 f2 f5 f6 gi
    subst hs1 hk1
    have gb : t1 6 = .ptr b 0 := by rw [f6, hb]
    unfold f14bC
    simp only [sZ, initT, optI, splice, reduceIte, reduceCtorEq, Nat.reduceEqDiff, Nat.reduceAdd, Nat.reduceSub, Nat.reduceMul, Nat.reduceLeDiff, Nat.reduceLT, Int.reduceLT, Int.reduceLE, Int.reduceToNat, Int.reduceEq, Int.cast_ofNat_Int, gb, gi, sb, encObj]
    refine brC_in (fun hlt => ?_) (fun hge => ?_)
    · have hj' : j < o.tags.length := by simpa using hlt
      have hg : (o.tags.map tagE.f)[j]? = some (tagE.f o.tags[j]) := tagE.get hj'
      simp only [tagE] at hg
      simp only [sZ, initT, optI, splice, reduceIte, reduceCtorEq, Nat.reduceEqDiff, Nat.reduceAdd, Nat.reduceSub, Nat.reduceMul, Nat.reduceLeDiff, Nat.reduceLT, Int.reduceLT, Int.reduceLE, Int.reduceToNat, Int.reduceEq, Int.cast_ofNat_Int, gb, gi, sb, encObj, hg, get_key, get_val]
      refine brC_in (fun hp1 => ?_) (fun hp0 => ?_)
      · simp only [sZ, initT, optI, splice, reduceIte, reduceCtorEq, Nat.reduceEqDiff, Nat.reduceAdd, Nat.reduceSub, Nat.reduceMul, Nat.reduceLeDiff, Nat.reduceLT, Int.reduceLT, Int.reduceLE, Int.reduceToNat, Int.reduceEq, Int.cast_ofNat_Int]
        refine hfail (all_first hj' ?_) _ ?_
        · simp only [shortS, shortT, hp1, Bool.not_true]
        · simp only [upd_apply, Nat.reduceEqDiff, reduceIte]
      · simp only [sZ, initT, optI, splice, reduceIte, reduceCtorEq, Nat.reduceEqDiff, Nat.reduceAdd, Nat.reduceSub, Nat.reduceMul, Nat.reduceLeDiff, Nat.reduceLT, Int.reduceLT, Int.reduceLE, Int.reduceToNat, Int.reduceEq, Int.cast_ofNat_Int, gb, gi]
        refine nextQ_normal (o.tags.length - (j + 1)) (by omega) (St.le_refl _) ⟨j + 1, rfl, rfl, ?_, ?_, ?_, ?_, rfl, by omega, fun i hi1 hi2 => ?_⟩
        · simp only [upd_apply, Nat.reduceEqDiff, reduceIte]; exact f2
        · simp only [upd_apply, Nat.reduceEqDiff, reduceIte]; exact f5
        · simp only [upd_apply, Nat.reduceEqDiff, reduceIte]; exact f6
        · simp only [upd_apply, Nat.reduceEqDiff, reduceIte]
          rw [wrap64 (by omega) (by omega)]
          rfl
        · by_cases h : i = j
          · subst h; simp only [shortS, shortT, hp0, Bool.not_false]
          · exact hall i hi1 (by omega)
    · have hj' : ¬ j < o.tags.length := by simpa using hge
      simp only [sZ, initT, optI, splice, reduceIte, reduceCtorEq, Nat.reduceEqDiff, Nat.reduceAdd, Nat.reduceSub, Nat.reduceMul, Nat.reduceLeDiff, Nat.reduceLT, Int.reduceLT, Int.reduceLE, Int.reduceToNat, Int.reduceEq, Int.cast_ofNat_Int]
      refine hok (all_through fun i h => hall i h (by omega)) _ ?_ ?_ ?_
      · simp only [upd_apply, Nat.reduceEqDiff, reduceIte]; exact f2
      · simp only [upd_apply, Nat.reduceEqDiff, reduceIte]; exact f5
      · simp only [upd_apply, Nat.reduceEqDiff, reduceIte]; exact f6
def fewM (o : Obj) : Bool := !decide ((12 : Int) < o.refs.length) && !decide ((20 : Int) < o.tags.length) && !decide ((60 : Int) < o.id.size) && o.refs.all (shortS 60) && o.tags.all (shortT 300)
theorem spec14 (m : List Obj) (most : Int) (hmost : most ≤ 1000) {s : Nat → Option Blk} {k : Nat → Tk} : Spec prg 19 [.agg (encMap m), .int .i64 most] s k (.bool (!decide (most < m.length) && m.all fewM)) s k := by
  refine spec_tr prg_mixed tr_pref13_Few (Nat.le_of_ble_eq_true rfl) rfl ?_
  unfold pc_pref13_Few rs_pref13_Few
  simp only [sZ, initT, optI, splice, reduceIte, reduceCtorEq, Nat.reduceEqDiff, Nat.reduceAdd, Nat.reduceSub, Nat.reduceMul, Nat.reduceLeDiff, Nat.reduceLT, Int.reduceLT, Int.reduceLE, Int.reduceToNat, Int.reduceEq, Int.cast_ofNat_Int, encMap]
  (with_reducible refine newS_in ?_); intro b2 h2; simp only [upd_none] at h2
  by_cases c1 : most < m.length
  · repeat' (first | (first | (with_reducible refine newS_in ?_; intro _ hid_; simp only [upd_none] at hid_) | (with_reducible refine newR_in ?_; intro _ hid_ hih_; simp only [upd_none, upd_none', rr_eqs2, and_true] at hid_ hih_) | (with_reducible refine mkmS_in ?_; intro _ hid_; simp only [upd_none] at hid_)) | (with_reducible refine brC_in (fun h_ => ?_) (fun h_ => ?_)) | (with_reducible refine brG_in (fun h_ => ?_) (fun h_ => ?_)) | (with_reducible refine brN_in (fun h_ => ?_) (fun h_ => ?_)) | simp only [sZ, initT, optI, splice, reduceIte, reduceCtorEq, Nat.reduceEqDiff, Nat.reduceAdd, Nat.reduceSub, Nat.reduceMul, Nat.reduceLeDiff, Nat.reduceLT, Int.reduceLT, Int.reduceLE, Int.reduceToNat, Int.reduceEq, Int.cast_ofNat_Int, *])
    refine OutQ.eq (by repeat (first | exact SExt.refl _ | (refine SExt.old ?_ (by first | (simp only [*]; done) | (simp only [upd_none]; assumption) | (simp only [upd_none, *, not_false_eq_true, and_self]; done)) _))) ?_
    simp [c1]
  repeat' (first | (first | (with_reducible refine newS_in ?_; intro _ hid_; simp only [upd_none] at hid_) | (with_reducible refine newR_in ?_; intro _ hid_ hih_; simp only [upd_none, upd_none', rr_eqs2, and_true] at hid_ hih_) | (with_reducible refine mkmS_in ?_; intro _ hid_; simp only [upd_none] at hid_)) | (with_reducible refine brC_in (fun h_ => ?_) (fun h_ => ?_)) | (with_reducible refine brG_in (fun h_ => ?_) (fun h_ => ?_)) | (with_reducible refine brN_in (fun h_ => ?_) (fun h_ => ?_)) | simp only [sZ, initT, optI, splice, reduceIte, reduceCtorEq, Nat.reduceEqDiff, Nat.reduceAdd, Nat.reduceSub, Nat.reduceMul, Nat.reduceLeDiff, Nat.reduceLT, Int.reduceLT, Int.reduceLE, Int.reduceToNat, Int.reduceEq, Int.cast_ofNat_Int, *])
  refine loop_intro (fun n st => ∃ j : Nat, st.s = upd s b2 (some (.cells (encMap m))) ∧ st.k = k ∧ st.t 2 = .ptr b2 0 ∧ st.t 5 = .int .i64 j ∧ n = m.length - j ∧ j ≤ m.length ∧ ∀ i (h : i < m.length), i < j → fewM m[i] = true) m.length ?_ ?_
  · exact ⟨0, rfl, rfl, rfl, rfl, by omega, by omega, by omega⟩
  · rintro n ⟨t1, s1, k1⟩ ⟨j, hs1, hk1, g2, g5, rfl, hj, hall⟩
    dsimp only at hs1 hk1 g2 g5
    subst hs1 hk1
    simp only [sZ, initT, optI, splice, reduceIte, reduceCtorEq, Nat.reduceEqDiff, Nat.reduceAdd, Nat.reduceSub, Nat.reduceMul, Nat.reduceLeDiff, Nat.reduceLT, Int.reduceLT, Int.reduceLE, Int.reduceToNat, Int.reduceEq, Int.cast_ofNat_Int, g2, g5, encMap]
    refine brC_in (fun hlt => ?_) (fun hge => ?_)
    · have hj' : j < m.length := by simpa using hlt
      have hg : (m.map encObj)[j]? = some (encObj m[j]) := objE.get hj'
      have hfail : fewM m[j] = false → m.all fewM = false := fun h => all_first hj' h
      generalize hE : encObj m[j] = E at hg
      have hE1 : List.map A.strip (List.take 6 E) = E := by rw [← hE]; rfl
      have hE2 : List.map A.strip E = E := by rw [← hE]; rfl
      have hE3 : E.length = 6 := by rw [← hE]; rfl
      have hE4 : E[4]? = some (.sl 1 (m[j].refs.map encStr) .no) := by rw [← hE]; rfl
      have hE5 : E[5]? = some (.sl 2 (m[j].tags.map encTag) .no) := by rw [← hE]; rfl
      have hE0 : E[0]? = some (.str m[j].id) := by rw [← hE]; rfl
      have hEd : List.drop 6 [A.str ⟨#[]⟩, .int .i64 0, .int .i64 0, .int .i64 0, .sl 1 [] .nil, .sl 2 [] .nil] = [] := rfl
      simp only [sZ, initT, optI, splice, reduceIte, reduceCtorEq, Nat.reduceEqDiff, Nat.reduceAdd, Nat.reduceSub, Nat.reduceMul, Nat.reduceLeDiff, Nat.reduceLT, Int.reduceLT, Int.reduceLE, Int.reduceToNat, Int.reduceEq, Int.cast_ofNat_Int, g2, g5, hg, hE1, hE2, hE3]
      (with_reducible refine newS_in ?_); intro b6 h6; simp only [upd_none] at h6
      by_cases d1 : (12 : Int) < m[j].refs.length
      · repeat' (first | (first | (with_reducible refine newS_in ?_; intro _ hid_; simp only [upd_none] at hid_) | (with_reducible refine newR_in ?_; intro _ hid_ hih_; simp only [upd_none, upd_none', rr_eqs2, and_true] at hid_ hih_) | (with_reducible refine mkmS_in ?_; intro _ hid_; simp only [upd_none] at hid_)) | (with_reducible refine brC_in (fun h_ => ?_) (fun h_ => ?_)) | (with_reducible refine brG_in (fun h_ => ?_) (fun h_ => ?_)) | (with_reducible refine brN_in (fun h_ => ?_) (fun h_ => ?_)) | simp only [sZ, initT, optI, splice, reduceIte, reduceCtorEq, Nat.reduceEqDiff, Nat.reduceAdd, Nat.reduceSub, Nat.reduceMul, Nat.reduceLeDiff, Nat.reduceLT, Int.reduceLT, Int.reduceLE, Int.reduceToNat, Int.reduceEq, Int.cast_ofNat_Int, *, -hlt, -hall, -hE, -hfail])
        refine OutQ.eq (by repeat (first | exact SExt.refl _ | (refine SExt.old ?_ (by first | (simp only [*]; done) | (simp only [upd_none]; assumption) | (simp only [upd_none, *, not_false_eq_true, and_self]; done)) _))) ?_
        rw [hfail (by simp [fewM, d1])]
        simp
      by_cases d2 : (20 : Int) < m[j].tags.length
      · repeat' (first | (first | (with_reducible refine newS_in ?_; intro _ hid_; simp only [upd_none] at hid_) | (with_reducible refine newR_in ?_; intro _ hid_ hih_; simp only [upd_none, upd_none', rr_eqs2, and_true] at hid_ hih_) | (with_reducible refine mkmS_in ?_; intro _ hid_; simp only [upd_none] at hid_)) | (with_reducible refine brC_in (fun h_ => ?_) (fun h_ => ?_)) | (with_reducible refine brG_in (fun h_ => ?_) (fun h_ => ?_)) | (with_reducible refine brN_in (fun h_ => ?_) (fun h_ => ?_)) | simp only [sZ, initT, optI, splice, reduceIte, reduceCtorEq, Nat.reduceEqDiff, Nat.reduceAdd, Nat.reduceSub, Nat.reduceMul, Nat.reduceLeDiff, Nat.reduceLT, Int.reduceLT, Int.reduceLE, Int.reduceToNat, Int.reduceEq, Int.cast_ofNat_Int, *, -hlt, -hall, -hE, -hfail])
        refine OutQ.eq (by repeat (first | exact SExt.refl _ | (refine SExt.old ?_ (by first | (simp only [*]; done) | (simp only [upd_none]; assumption) | (simp only [upd_none, *, not_false_eq_true, and_self]; done)) _))) ?_
        rw [hfail (by simp [fewM, d2])]
        simp
      by_cases d3 : (60 : Int) < m[j].id.size
      · repeat' (first | (first | (with_reducible refine newS_in ?_; intro _ hid_; simp only [upd_none] at hid_) | (with_reducible refine newR_in ?_; intro _ hid_ hih_; simp only [upd_none, upd_none', rr_eqs2, and_true] at hid_ hih_) | (with_reducible refine mkmS_in ?_; intro _ hid_; simp only [upd_none] at hid_)) | (with_reducible refine brC_in (fun h_ => ?_) (fun h_ => ?_)) | (with_reducible refine brG_in (fun h_ => ?_) (fun h_ => ?_)) | (with_reducible refine brN_in (fun h_ => ?_) (fun h_ => ?_)) | simp only [sZ, initT, optI, splice, reduceIte, reduceCtorEq, Nat.reduceEqDiff, Nat.reduceAdd, Nat.reduceSub, Nat.reduceMul, Nat.reduceLeDiff, Nat.reduceLT, Int.reduceLT, Int.reduceLE, Int.reduceToNat, Int.reduceEq, Int.cast_ofNat_Int, *, -hlt, -hall, -hE, -hfail])
        refine OutQ.eq (by repeat (first | exact SExt.refl _ | (refine SExt.old ?_ (by first | (simp only [*]; done) | (simp only [upd_none]; assumption) | (simp only [upd_none, *, not_false_eq_true, and_self]; done)) _))) ?_
        rw [hfail (by simp [fewM, d3])]
        simp
      repeat' (first | (first | (with_reducible refine newS_in ?_; intro _ hid_; simp only [upd_none] at hid_) | (with_reducible refine newR_in ?_; intro _ hid_ hih_; simp only [upd_none, upd_none', rr_eqs2, and_true] at hid_ hih_) | (with_reducible refine mkmS_in ?_; intro _ hid_; simp only [upd_none] at hid_)) | (with_reducible refine brC_in (fun h_ => ?_) (fun h_ => ?_)) | (with_reducible refine brG_in (fun h_ => ?_) (fun h_ => ?_)) | (with_reducible refine brN_in (fun h_ => ?_) (fun h_ => ?_)) | simp only [sZ, initT, optI, splice, reduceIte, reduceCtorEq, Nat.reduceEqDiff, Nat.reduceAdd, Nat.reduceSub, Nat.reduceMul, Nat.reduceLeDiff, Nat.reduceLT, Int.reduceLT, Int.reduceLE, Int.reduceToNat, Int.reduceEq, Int.cast_ofNat_Int, *, -hlt, -hall, -hE, -hfail])
      refine f14a m[j] (by omega) rfl rfl (by simp only [upd_apply, *, reduceIte]) ?_ ?_
      · intro hf t' h4
        simp only [sZ, initT, optI, splice, reduceIte, reduceCtorEq, Nat.reduceEqDiff, Nat.reduceAdd, Nat.reduceSub, Nat.reduceMul, Nat.reduceLeDiff, Nat.reduceLT, Int.reduceLT, Int.reduceLE, Int.reduceToNat, Int.reduceEq, Int.cast_ofNat_Int, h4]
        refine OutQ.eq (by repeat (first | exact SExt.refl _ | (refine SExt.old ?_ (by first | (simp only [*]; done) | (simp only [upd_none]; assumption) | (simp only [upd_none, *, not_false_eq_true, and_self]; done)) _))) ?_
        rw [hfail (by simp [fewM, hf])]
        simp
      · intro hf t' k2 k5 k6
        simp only [upd_apply, Nat.reduceEqDiff, reduceIte] at k2 k5 k6
        simp only [sZ, initT, optI, splice, reduceIte, reduceCtorEq, Nat.reduceEqDiff, Nat.reduceAdd, Nat.reduceSub, Nat.reduceMul, Nat.reduceLeDiff, Nat.reduceLT, Int.reduceLT, Int.reduceLE, Int.reduceToNat, Int.reduceEq, Int.cast_ofNat_Int, k2, k5, k6]
        refine f14b m[j] (by omega) (by simp only [upd_apply, Nat.reduceEqDiff, reduceIte]; exact k6) (by simp only [upd_apply, Nat.reduceEqDiff, reduceIte]) (by simp only [upd_apply, *, reduceIte]) ?_ ?_
        · intro hf2 t2 h4
          simp only [sZ, initT, optI, splice, reduceIte, reduceCtorEq, Nat.reduceEqDiff, Nat.reduceAdd, Nat.reduceSub, Nat.reduceMul, Nat.reduceLeDiff, Nat.reduceLT, Int.reduceLT, Int.reduceLE, Int.reduceToNat, Int.reduceEq, Int.cast_ofNat_Int, h4]
          refine OutQ.eq (by repeat (first | exact SExt.refl _ | (refine SExt.old ?_ (by first | (simp only [*]; done) | (simp only [upd_none]; assumption) | (simp only [upd_none, *, not_false_eq_true, and_self]; done)) _))) ?_
          rw [hfail (by simp [fewM, hf2])]
          simp
        · intro hf2 t2 q2 q5 q6
          simp only [upd_apply, Nat.reduceEqDiff, reduceIte, k2, k5, g2, g5] at q2 q5
          simp only [sZ, initT, optI, splice, reduceIte, reduceCtorEq, Nat.reduceEqDiff, Nat.reduceAdd, Nat.reduceSub, Nat.reduceMul, Nat.reduceLeDiff, Nat.reduceLT, Int.reduceLT, Int.reduceLE, Int.reduceToNat, Int.reduceEq, Int.cast_ofNat_Int, q2, q5]
          refine nextQ_normal (m.length - (j + 1)) (by omega) (St.le_s (s := upd s b2 (some (.cells (encMap m)))) (SExt.old (SExt.refl _) ?_ _)) ⟨j + 1, rfl, rfl, ?_, ?_, rfl, by omega, fun i hi1 hi2 => ?_⟩
          · exact (upd_none _ _ _ _).2 h6
          · simp only [upd_apply, Nat.reduceEqDiff, reduceIte]; exact q2
          · simp only [upd_apply, Nat.reduceEqDiff, reduceIte]
            rw [wrap64 (by omega) (by omega)]
            rfl
          · by_cases h : i = j
            · subst h; simp [fewM, hf, hf2, d1, d2, d3]
            · exact hall i hi1 (by omega)
    · have hj' : ¬ j < m.length := by simpa using hge
      simp only [sZ, initT, optI, splice, reduceIte, reduceCtorEq, Nat.reduceEqDiff, Nat.reduceAdd, Nat.reduceSub, Nat.reduceMul, Nat.reduceLeDiff, Nat.reduceLT, Int.reduceLT, Int.reduceLE, Int.reduceToNat, Int.reduceEq, Int.cast_ofNat_Int]
      refine OutQ.eq (by repeat (first | exact SExt.refl _ | (refine SExt.old ?_ (by first | (simp only [*]; done) | (simp only [upd_none]; assumption) | (simp only [upd_none, *, not_false_eq_true, and_self]; done)) _))) ?_
      rw [all_through fun i h => hall i h (by omega)]
      simp [c1]
end Go.Pv
