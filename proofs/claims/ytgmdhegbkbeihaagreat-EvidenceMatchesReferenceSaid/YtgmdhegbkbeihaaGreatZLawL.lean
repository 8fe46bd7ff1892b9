/- The functions Few: their inner loops. -/
import Derived.Test.YtgmdhegbkbeihaaGreatZLawA
set_option linter.unusedVariables false
set_option linter.unusedSimpArgs false
set_option maxRecDepth 4000
set_option maxHeartbeats 1000000
namespace Go.Pv
open Go

theorem all_first {α : Type} {p : α → Bool} {l : List α} {i : Nat} (h : i < l.length) (hp : p l[i] = false) : l.all p = false := by
  rw [List.all_eq_false]
  exact ⟨l[i], List.getElem_mem h, by rw [hp]; simp⟩
theorem all_through {α : Type} {p : α → Bool} {l : List α} (hj : ∀ j (h : j < l.length), p l[j] = true) : l.all p = true := by
  rw [List.all_eq_true]
  intro x hx
  obtain ⟨j, h, rfl⟩ := List.getElem_of_mem hx
  exact hj j h
def shortS (n : Int) (r : ByteArray) : Bool := !decide (n < r.size)
def shortT (n : Int) (t : Tag) : Bool := !decide (n < IntKind.i64.wrap ((t.key.size : Int) + t.val.size))
theorem get_key (t : Tag) : (encTag t)[0]? = some (.str t.key) := rfl
theorem get_val (t : Tag) : (encTag t)[1]? = some (.str t.val) := rfl
noncomputable def f20aC : PC := (.seq (.seq (.reg [⟨(.some 24), .none, (.mv (.t 5))⟩, ⟨(.some 25), .none, (.fld 4 (.t 2))⟩, ⟨(.some 26), .none, (.load .none (.t 25))⟩, ⟨(.some 27), .none, (.len false (.t 26))⟩, ⟨(.some 28), .none, (.bin .lss (.t 24) (.t 27))⟩] false .none) (.cond (.t 28) .skip (.exit 0))) (.seq (.block 1 (.seq (.reg [⟨(.some 31), .none, (.fld 4 (.t 2))⟩, ⟨(.some 32), .none, (.load .none (.t 31))⟩, ⟨(.some 33), .none, (.mv (.t 5))⟩, ⟨(.some 34), .none, (.idx 1 (.t 32) (.t 33))⟩, ⟨(.some 35), .none, (.load .none (.t 34))⟩, ⟨(.some 36), .none, (.len true (.t 35))⟩, ⟨(.some 37), .none, (.bin .gtr (.t 36) (.c (.int .i64 300)))⟩] false .none) (.cond (.t 37) (.seq (.reg [⟨(.some 4), .none, (.mv (.c (.bool false)))⟩] false .none) .ret) .skip))) (.reg [⟨(.some 29), .none, (.mv (.t 5))⟩, ⟨(.some 30), .none, (.bin .add (.t 29) (.c (.int .i64 1)))⟩, ⟨(.some 5), .none, (.mv (.t 30))⟩] false .none)))
theorem f20a (o : Obj) {b : Nat} {s : Nat → Option Blk} {k : Nat → Tk} {t : Nat → A} {Q : PX → St → Prop} (hl : o.refs.length < 4611686018427387904) (hb : t 2 = .ptr b 0) (hi : t 5 = .int .i64 0) (sb : s b = some (.cells (encObj o)))
    (hfail : o.refs.all (shortS 300) = false → ∀ t', t' 4 = .bool false → Q .ret ⟨t', s, k⟩) (hok : o.refs.all (shortS 300) = true → ∀ t', t' 2 = t 2 → Q (.exit 0) ⟨t', s, k⟩) : pwp prg (.loop f20aC) Q ⟨t, s, k⟩ := by
  refine loop_intro (fun n st => ∃ j : Nat, st.s = s ∧ st.k = k ∧ st.t 2 = t 2 ∧ st.t 5 = .int .i64 j ∧ n = o.refs.length - j ∧ j ≤ o.refs.length ∧ ∀ i (h : i < o.refs.length), i < j → shortS 300 o.refs[i] = true) o.refs.length ?_ ?_
  · exact ⟨0, rfl, rfl, rfl, hi, by omega, by omega, by omega⟩
  · rintro n ⟨t1, s1, k1⟩ ⟨j, hs1, hk1, f2, gi, rfl, hj, hall⟩
    dsimp only at hs1 hk1 f2 gi
    subst hs1 hk1
    have gb : t1 2 = .ptr b 0 := by rw [f2, hb]
    unfold f20aC
    simp only [sZ, initT, optI, splice, reduceIte, reduceCtorEq, Nat.reduceEqDiff, Nat.reduceAdd, Nat.reduceSub, Nat.reduceMul, Nat.reduceLeDiff, Nat.reduceLT, Int.reduceLT, Int.reduceLE, Int.reduceToNat, Int.reduceEq, Int.cast_ofNat_Int, gb, gi, sb, encObj]
    refine brC_in (fun hlt => ?_) (fun hge => ?_)
    · have hj' : j < o.refs.length := by simpa using hlt
      have hg : (o.refs.map strE.f)[j]? = some (strE.f o.refs[j]) := strE.get hj'
      simp only [strE] at hg
      simp only [sZ, initT, optI, splice, reduceIte, reduceCtorEq, Nat.reduceEqDiff, Nat.reduceAdd, Nat.reduceSub, Nat.reduceMul, Nat.reduceLeDiff, Nat.reduceLT, Int.reduceLT, Int.reduceLE, Int.reduceToNat, Int.reduceEq, Int.cast_ofNat_Int, gb, gi, sb, encObj, hg, get_str]
      refine brC_in (fun hp1 => ?_) (fun hp0 => ?_)
      · simp only [sZ, initT, optI, splice, reduceIte, reduceCtorEq, Nat.reduceEqDiff, Nat.reduceAdd, Nat.reduceSub, Nat.reduceMul, Nat.reduceLeDiff, Nat.reduceLT, Int.reduceLT, Int.reduceLE, Int.reduceToNat, Int.reduceEq, Int.cast_ofNat_Int]
        refine hfail (all_first hj' ?_) _ ?_
        · simp only [shortS, shortT, hp1, Bool.not_true]
        · simp only [upd_apply, Nat.reduceEqDiff, reduceIte]
      · simp only [sZ, initT, optI, splice, reduceIte, reduceCtorEq, Nat.reduceEqDiff, Nat.reduceAdd, Nat.reduceSub, Nat.reduceMul, Nat.reduceLeDiff, Nat.reduceLT, Int.reduceLT, Int.reduceLE, Int.reduceToNat, Int.reduceEq, Int.cast_ofNat_Int, gb, gi]
        refine nextQ_normal (o.refs.length - (j + 1)) (by omega) (St.le_refl _) ⟨j + 1, rfl, rfl, ?_, ?_, rfl, by omega, fun i hi1 hi2 => ?_⟩
        · simp only [upd_apply, Nat.reduceEqDiff, reduceIte]; exact f2
        · simp only [upd_apply, Nat.reduceEqDiff, reduceIte]
          rw [wrap64 (by omega) (by omega)]
          rfl
        · by_cases h : i = j
          · subst h; simp only [shortS, shortT, hp0, Bool.not_false]
          · exact hall i hi1 (by omega)
    · have hj' : ¬ j < o.refs.length := by simpa using hge
      simp only [sZ, initT, optI, splice, reduceIte, reduceCtorEq, Nat.reduceEqDiff, Nat.reduceAdd, Nat.reduceSub, Nat.reduceMul, Nat.reduceLeDiff, Nat.reduceLT, Int.reduceLT, Int.reduceLE, Int.reduceToNat, Int.reduceEq, Int.cast_ofNat_Int]
      refine hok (all_through fun i h => hall i h (by omega)) _ ?_
      · simp only [upd_apply, Nat.reduceEqDiff, reduceIte]; exact f2
noncomputable def f20bC : PC := (.seq (.seq (.reg [⟨(.some 38), .none, (.mv (.t 6))⟩, ⟨(.some 39), .none, (.fld 5 (.t 2))⟩, ⟨(.some 40), .none, (.load .none (.t 39))⟩, ⟨(.some 41), .none, (.len false (.t 40))⟩, ⟨(.some 42), .none, (.bin .lss (.t 38) (.t 41))⟩] false .none) (.cond (.t 42) .skip (.exit 2))) (.seq (.block 3 (.seq (.reg [⟨(.some 45), .none, (.fld 5 (.t 2))⟩, ⟨(.some 46), .none, (.load .none (.t 45))⟩, ⟨(.some 47), .none, (.mv (.t 6))⟩, ⟨(.some 48), .none, (.idx 2 (.t 46) (.t 47))⟩, ⟨(.some 49), .none, (.fld 0 (.t 48))⟩, ⟨(.some 50), .none, (.load .none (.t 49))⟩, ⟨(.some 51), .none, (.len true (.t 50))⟩, ⟨(.some 52), .none, (.fld 5 (.t 2))⟩, ⟨(.some 53), .none, (.load .none (.t 52))⟩, ⟨(.some 54), .none, (.mv (.t 6))⟩, ⟨(.some 55), .none, (.idx 2 (.t 53) (.t 54))⟩, ⟨(.some 56), .none, (.fld 1 (.t 55))⟩, ⟨(.some 57), .none, (.load .none (.t 56))⟩, ⟨(.some 58), .none, (.len true (.t 57))⟩, ⟨(.some 59), .none, (.bin .add (.t 51) (.t 58))⟩, ⟨(.some 60), .none, (.bin .gtr (.t 59) (.c (.int .i64 600)))⟩] true .none) (.cond (.t 60) (.seq (.reg [⟨(.some 4), .none, (.mv (.c (.bool false)))⟩] false .none) .ret) .skip))) (.reg [⟨(.some 43), .none, (.mv (.t 6))⟩, ⟨(.some 44), .none, (.bin .add (.t 43) (.c (.int .i64 1)))⟩, ⟨(.some 6), .none, (.mv (.t 44))⟩] false .none)))
theorem f20b (o : Obj) {b : Nat} {s : Nat → Option Blk} {k : Nat → Tk} {t : Nat → A} {Q : PX → St → Prop} (hl : o.tags.length < 4611686018427387904) (hb : t 2 = .ptr b 0) (hi : t 6 = .int .i64 0) (sb : s b = some (.cells (encObj o)))
    (hfail : o.tags.all (shortT 600) = false → ∀ t', t' 4 = .bool false → Q .ret ⟨t', s, k⟩) (hok : o.tags.all (shortT 600) = true → ∀ t', t' 2 = t 2 → Q (.exit 2) ⟨t', s, k⟩) : pwp prg (.loop f20bC) Q ⟨t, s, k⟩ := by
  refine loop_intro (fun n st => ∃ j : Nat, st.s = s ∧ st.k = k ∧ st.t 2 = t 2 ∧ st.t 6 = .int .i64 j ∧ n = o.tags.length - j ∧ j ≤ o.tags.length ∧ ∀ i (h : i < o.tags.length), i < j → shortT 600 o.tags[i] = true) o.tags.length ?_ ?_
  · exact ⟨0, rfl, rfl, rfl, hi, by omega, by omega, by omega⟩
  · rintro n ⟨t1, s1, k1⟩ ⟨j, hs1, hk1, f2, gi, rfl, hj, hall⟩
    dsimp only at hs1 hk1 f2 gi
    subst hs1 hk1
    have gb : t1 2 = .ptr b 0 := by rw [f2, hb]
    unfold f20bC
    simp only [sZ, initT, optI, splice, reduceIte, reduceCtorEq, Nat.reduceEqDiff, Nat.reduceAdd, Nat.reduceSub, Nat.reduceMul, Nat.reduceLeDiff, Nat.reduceLT, Int.reduceLT, Int.reduceLE, Int.reduceToNat, Int.reduceEq, Int.cast_ofNat_Int, gb, gi, sb, encObj]
    refine brC_in (fun hlt => ?_) (fun hge => ?_)
    · have hj' : j < o.tags.length := by simpa using hlt
      have hg : (o.tags.map tagE.f)[j]? = some (tagE.f o.tags[j]) := tagE.get hj'
      simp only [tagE] at hg
      simp only [sZ, initT, optI, splice, reduceIte, reduceCtorEq, Nat.reduceEqDiff, Nat.reduceAdd, Nat.reduceSub, Nat.reduceMul, Nat.reduceLeDiff, Nat.reduceLT, Int.reduceLT, Int.reduceLE, Int.reduceToNat, Int.reduceEq, Int.cast_ofNat_Int, gb, gi, sb, encObj, hg, get_key, get_val]
      refine brC_in (fun hp1 => ?_) (fun hp0 => ?_)
      · simp only [sZ, initT, optI, splice, reduceIte, reduceCtorEq, Nat.reduceEqDiff, Nat.reduceAdd, Nat.reduceSub, Nat.reduceMul, Nat.reduceLeDiff, Nat.reduceLT, Int.reduceLT, Int.reduceLE, Int.reduceToNat, Int.reduceEq, Int.cast_ofNat_Int]
        refine hfail (all_first hj' ?_) _ ?_
        · simp only [shortS, shortT, hp1, Bool.not_true]
        · simp only [upd_apply, Nat.reduceEqDiff, reduceIte]
      · simp only [sZ, initT, optI, splice, reduceIte, reduceCtorEq, Nat.reduceEqDiff, Nat.reduceAdd, Nat.reduceSub, Nat.reduceMul, Nat.reduceLeDiff, Nat.reduceLT, Int.reduceLT, Int.reduceLE, Int.reduceToNat, Int.reduceEq, Int.cast_ofNat_Int, gb, gi]
        refine nextQ_normal (o.tags.length - (j + 1)) (by omega) (St.le_refl _) ⟨j + 1, rfl, rfl, ?_, ?_, rfl, by omega, fun i hi1 hi2 => ?_⟩
        · simp only [upd_apply, Nat.reduceEqDiff, reduceIte]; exact f2
        · simp only [upd_apply, Nat.reduceEqDiff, reduceIte]
          rw [wrap64 (by omega) (by omega)]
          rfl
        · by_cases h : i = j
          · subst h; simp only [shortS, shortT, hp0, Bool.not_false]
          · exact hall i hi1 (by omega)
    · have hj' : ¬ j < o.tags.length := by simpa using hge
      simp only [sZ, initT, optI, splice, reduceIte, reduceCtorEq, Nat.reduceEqDiff, Nat.reduceAdd, Nat.reduceSub, Nat.reduceMul, Nat.reduceLeDiff, Nat.reduceLT, Int.reduceLT, Int.reduceLE, Int.reduceToNat, Int.reduceEq, Int.cast_ofNat_Int]
      refine hok (all_through fun i h => hall i h (by omega)) _ ?_
      · simp only [upd_apply, Nat.reduceEqDiff, reduceIte]; exact f2
noncomputable def f14aC : PC := (.seq (.seq (.reg [⟨(.some 42), .none, (.mv (.t 7))⟩, ⟨(.some 43), .none, (.fld 4 (.t 6))⟩, ⟨(.some 44), .none, (.load .none (.t 43))⟩, ⟨(.some 45), .none, (.len false (.t 44))⟩, ⟨(.some 46), .none, (.bin .lss (.t 42) (.t 45))⟩] false .none) (.cond (.t 46) .skip (.exit 2))) (.seq (.block 3 (.seq (.reg [⟨(.some 49), .none, (.fld 4 (.t 6))⟩, ⟨(.some 50), .none, (.load .none (.t 49))⟩, ⟨(.some 51), .none, (.mv (.t 7))⟩, ⟨(.some 52), .none, (.idx 1 (.t 50) (.t 51))⟩, ⟨(.some 53), .none, (.load .none (.t 52))⟩, ⟨(.some 54), .none, (.len true (.t 53))⟩, ⟨(.some 55), .none, (.bin .gtr (.t 54) (.c (.int .i64 60)))⟩] false .none) (.cond (.t 55) (.seq (.reg [⟨(.some 4), .none, (.mv (.c (.bool false)))⟩] false .none) .ret) .skip))) (.reg [⟨(.some 47), .none, (.mv (.t 7))⟩, ⟨(.some 48), .none, (.bin .add (.t 47) (.c (.int .i64 1)))⟩, ⟨(.some 7), .none, (.mv (.t 48))⟩] false .none)))
theorem f14a (o : Obj) {b : Nat} {s : Nat → Option Blk} {k : Nat → Tk} {t : Nat → A} {Q : PX → St → Prop} (hl : o.refs.length < 4611686018427387904) (hb : t 6 = .ptr b 0) (hi : t 7 = .int .i64 0) (sb : s b = some (.cells (encObj o)))
    (hfail : o.refs.all (shortS 60) = false → ∀ t', t' 4 = .bool false → Q .ret ⟨t', s, k⟩) (hok : o.refs.all (shortS 60) = true → ∀ t', t' 2 = t 2 → t' 5 = t 5 → t' 6 = t 6 → Q (.exit 2) ⟨t', s, k⟩) : pwp prg (.loop f14aC) Q ⟨t, s, k⟩ := by
  refine loop_intro (fun n st => ∃ j : Nat, st.s = s ∧ st.k = k ∧ st.t 2 = t 2 ∧ st.t 5 = t 5 ∧ st.t 6 = t 6 ∧ st.t 7 = .int .i64 j ∧ n = o.refs.length - j ∧ j ≤ o.refs.length ∧ ∀ i (h : i < o.refs.length), i < j → shortS 60 o.refs[i] = true) o.refs.length ?_ ?_
  · exact ⟨0, rfl, rfl, rfl, rfl, rfl, hi, by omega, by omega, by omega⟩
  · rintro n ⟨t1, s1, k1⟩ ⟨j, hs1, hk1, f2, f5, f6, gi, rfl, hj, hall⟩
    dsimp only at hs1 hk1 f2 f5 f6 gi
    subst hs1 hk1
    have gb : t1 6 = .ptr b 0 := by rw [f6, hb]
    unfold f14aC
    simp only [sZ, initT, optI, splice, reduceIte, reduceCtorEq, Nat.reduceEqDiff, Nat.reduceAdd, Nat.reduceSub, Nat.reduceMul, Nat.reduceLeDiff, Nat.reduceLT, Int.reduceLT, Int.reduceLE, Int.reduceToNat, Int.reduceEq, Int.cast_ofNat_Int, gb, gi, sb, encObj]
    refine brC_in (fun hlt => ?_) (fun hge => ?_)
    · have hj' : j < o.refs.length := by simpa using hlt
      have hg : (o.refs.map strE.f)[j]? = some (strE.f o.refs[j]) := strE.get hj'
      simp only [strE] at hg
      simp only [sZ, initT, optI, splice, reduceIte, reduceCtorEq, Nat.reduceEqDiff, Nat.reduceAdd, Nat.reduceSub, Nat.reduceMul, Nat.reduceLeDiff, Nat.reduceLT, Int.reduceLT, Int.reduceLE, Int.reduceToNat, Int.reduceEq, Int.cast_ofNat_Int, gb, gi, sb, encObj, hg, get_str]
      refine brC_in (fun hp1 => ?_) (fun hp0 => ?_)
      · simp only [sZ, initT, optI, splice, reduceIte, reduceCtorEq, Nat.reduceEqDiff, Nat.reduceAdd, Nat.reduceSub, Nat.reduceMul, Nat.reduceLeDiff, Nat.reduceLT, Int.reduceLT, Int.reduceLE, Int.reduceToNat, Int.reduceEq, Int.cast_ofNat_Int]
        refine hfail (all_first hj' ?_) _ ?_
        · simp only [shortS, shortT, hp1, Bool.not_true]
        · simp only [upd_apply, Nat.reduceEqDiff, reduceIte]
      · simp only [sZ, initT, optI, splice, reduceIte, reduceCtorEq, Nat.reduceEqDiff, Nat.reduceAdd, Nat.reduceSub, Nat.reduceMul, Nat.reduceLeDiff, Nat.reduceLT, Int.reduceLT, Int.reduceLE, Int.reduceToNat, Int.reduceEq, Int.cast_ofNat_Int, gb, gi]
        refine nextQ_normal (o.refs.length - (j + 1)) (by omega) (St.le_refl _) ⟨j + 1, rfl, rfl, ?_, ?_, ?_, ?_, rfl, by omega, fun i hi1 hi2 => ?_⟩
        · simp only [upd_apply, Nat.reduceEqDiff, reduceIte]; exact f2
        · simp only [upd_apply, Nat.reduceEqDiff, reduceIte]; exact f5
        · simp only [upd_apply, Nat.reduceEqDiff, reduceIte]; exact f6
        · simp only [upd_apply, Nat.reduceEqDiff, reduceIte]
          rw [wrap64 (by omega) (by omega)]
          rfl
        · by_cases h : i = j
          · subst h; simp only [shortS, shortT, hp0, Bool.not_false]
          · exact hall i hi1 (by omega)
    · have hj' : ¬ j < o.refs.length := by simpa using hge
      simp only [sZ, initT, optI, splice, reduceIte, reduceCtorEq, Nat.reduceEqDiff, Nat.reduceAdd, Nat.reduceSub, Nat.reduceMul, Nat.reduceLeDiff, Nat.reduceLT, Int.reduceLT, Int.reduceLE, Int.reduceToNat, Int.reduceEq, Int.cast_ofNat_Int]
      refine hok (all_through fun i h => hall i h (by omega)) _ ?_ ?_ ?_
      · simp only [upd_apply, Nat.reduceEqDiff, reduceIte]; exact f2
      · simp only [upd_apply, Nat.reduceEqDiff, reduceIte]; exact f5
      · simp only [upd_apply, Nat.reduceEqDiff, reduceIte]; exact f6
noncomputable def f14bC : PC := (.seq (.seq (.reg [⟨(.some 56), .none, (.mv (.t 8))⟩, ⟨(.some 57), .none, (.fld 5 (.t 6))⟩, ⟨(.some 58), .none, (.load .none (.t 57))⟩, ⟨(.some 59), .none, (.len false (.t 58))⟩, ⟨(.some 60), .none, (.bin .lss (.t 56) (.t 59))⟩] false .none) (.cond (.t 60) .skip (.exit 4))) (.seq (.block 5 (.seq (.reg [⟨(.some 63), .none, (.fld 5 (.t 6))⟩, ⟨(.some 64), .none, (.load .none (.t 63))⟩, ⟨(.some 65), .none, (.mv (.t 8))⟩, ⟨(.some 66), .none, (.idx 2 (.t 64) (.t 65))⟩, ⟨(.some 67), .none, (.fld 0 (.t 66))⟩, ⟨(.some 68), .none, (.load .none (.t 67))⟩, ⟨(.some 69), .none, (.len true (.t 68))⟩, ⟨(.some 70), .none, (.fld 5 (.t 6))⟩, ⟨(.some 71), .none, (.load .none (.t 70))⟩, ⟨(.some 72), .none, (.mv (.t 8))⟩, ⟨(.some 73), .none, (.idx 2 (.t 71) (.t 72))⟩, ⟨(.some 74), .none, (.fld 1 (.t 73))⟩, ⟨(.some 75), .none, (.load .none (.t 74))⟩, ⟨(.some 76), .none, (.len true (.t 75))⟩, ⟨(.some 77), .none, (.bin .add (.t 69) (.t 76))⟩, ⟨(.some 78), .none, (.bin .gtr (.t 77) (.c (.int .i64 300)))⟩] true .none) (.cond (.t 78) (.seq (.reg [⟨(.some 4), .none, (.mv (.c (.bool false)))⟩] false .none) .ret) .skip))) (.reg [⟨(.some 61), .none, (.mv (.t 8))⟩, ⟨(.some 62), .none, (.bin .add (.t 61) (.c (.int .i64 1)))⟩, ⟨(.some 8), .none, (.mv (.t 62))⟩] false .none)))
theorem f14b (o : Obj) {b : Nat} {s : Nat → Option Blk} {k : Nat → Tk} {t : Nat → A} {Q : PX → St → Prop} (hl : o.tags.length < 4611686018427387904) (hb : t 6 = .ptr b 0) (hi : t 8 = .int .i64 0) (sb : s b = some (.cells (encObj o)))
    (hfail : o.tags.all (shortT 300) = false → ∀ t', t' 4 = .bool false → Q .ret ⟨t', s, k⟩) (hok : o.tags.all (shortT 300) = true → ∀ t', t' 2 = t 2 → t' 5 = t 5 → t' 6 = t 6 → Q (.exit 4) ⟨t', s, k⟩) : pwp prg (.loop f14bC) Q ⟨t, s, k⟩ := by
  refine loop_intro (fun n st => ∃ j : Nat, st.s = s ∧ st.k = k ∧ st.t 2 = t 2 ∧ st.t 5 = t 5 ∧ st.t 6 = t 6 ∧ st.t 8 = .int .i64 j ∧ n = o.tags.length - j ∧ j ≤ o.tags.length ∧ ∀ i (h : i < o.tags.length), i < j → shortT 300 o.tags[i] = true) o.tags.length ?_ ?_
  · exact ⟨0, rfl, rfl, rfl, rfl, rfl, hi, by omega, by omega, by omega⟩
  · rintro n ⟨t1, s1, k1⟩ ⟨j, hs1, hk1, f2, f5, f6, gi, rfl, hj, hall⟩
    dsimp only at hs1 hk1 f2 f5 f6 gi
    subst hs1 hk1
    have gb : t1 6 = .ptr b 0 := by rw [f6, hb]
    unfold f14bC
    simp only [sZ, initT, optI, splice, reduceIte, reduceCtorEq, Nat.reduceEqDiff, Nat.reduceAdd, Nat.reduceSub, Nat.reduceMul, Nat.reduceLeDiff, Nat.reduceLT, Int.reduceLT, Int.reduceLE, Int.reduceToNat, Int.reduceEq, Int.cast_ofNat_Int, gb, gi, sb, encObj]
    refine brC_in (fun hlt => ?_) (fun hge => ?_)
    · have hj' : j < o.tags.length := by simpa using hlt
      have hg : (o.tags.map tagE.f)[j]? = some (tagE.f o.tags[j]) := tagE.get hj'
      simp only [tagE] at hg
      simp only [sZ, initT, optI, splice, reduceIte, reduceCtorEq, Nat.reduceEqDiff, Nat.reduceAdd, Nat.reduceSub, Nat.reduceMul, Nat.reduceLeDiff, Nat.reduceLT, Int.reduceLT, Int.reduceLE, Int.reduceToNat, Int.reduceEq, Int.cast_ofNat_Int, gb, gi, sb, encObj, hg, get_key, get_val]
      refine brC_in (fun hp1 => ?_) (fun hp0 => ?_)
      · simp only [sZ, initT, optI, splice, reduceIte, reduceCtorEq, Nat.reduceEqDiff, Nat.reduceAdd, Nat.reduceSub, Nat.reduceMul, Nat.reduceLeDiff, Nat.reduceLT, Int.reduceLT, Int.reduceLE, Int.reduceToNat, Int.reduceEq, Int.cast_ofNat_Int]
        refine hfail (all_first hj' ?_) _ ?_
        · simp only [shortS, shortT, hp1, Bool.not_true]
        · simp only [upd_apply, Nat.reduceEqDiff, reduceIte]
      · simp only [sZ, initT, optI, splice, reduceIte, reduceCtorEq, Nat.reduceEqDiff, Nat.reduceAdd, Nat.reduceSub, Nat.reduceMul, Nat.reduceLeDiff, Nat.reduceLT, Int.reduceLT, Int.reduceLE, Int.reduceToNat, Int.reduceEq, Int.cast_ofNat_Int, gb, gi]
        refine nextQ_normal (o.tags.length - (j + 1)) (by omega) (St.le_refl _) ⟨j + 1, rfl, rfl, ?_, ?_, ?_, ?_, rfl, by omega, fun i hi1 hi2 => ?_⟩
        · simp only [upd_apply, Nat.reduceEqDiff, reduceIte]; exact f2
        · simp only [upd_apply, Nat.reduceEqDiff, reduceIte]; exact f5
        · simp only [upd_apply, Nat.reduceEqDiff, reduceIte]; exact f6
        · simp only [upd_apply, Nat.reduceEqDiff, reduceIte]
          rw [wrap64 (by omega) (by omega)]
          rfl
        · by_cases h : i = j
          · subst h; simp only [shortS, shortT, hp0, Bool.not_false]
          · exact hall i hi1 (by omega)
    · have hj' : ¬ j < o.tags.length := by simpa using hge
      simp only [sZ, initT, optI, splice, reduceIte, reduceCtorEq, Nat.reduceEqDiff, Nat.reduceAdd, Nat.reduceSub, Nat.reduceMul, Nat.reduceLeDiff, Nat.reduceLT, Int.reduceLT, Int.reduceLE, Int.reduceToNat, Int.reduceEq, Int.cast_ofNat_Int]
      refine hok (all_through fun i h => hall i h (by omega)) _ ?_ ?_ ?_
      · simp only [upd_apply, Nat.reduceEqDiff, reduceIte]; exact f2
      · simp only [upd_apply, Nat.reduceEqDiff, reduceIte]; exact f5
      · simp only [upd_apply, Nat.reduceEqDiff, reduceIte]; exact f6
noncomputable def f10aC : PC := (.seq (.seq (.reg [⟨(.some 69), .none, (.mv (.t 7))⟩, ⟨(.some 70), .none, (.fld 8 (.t 6))⟩, ⟨(.some 71), .none, (.load .none (.t 70))⟩, ⟨(.some 72), .none, (.len false (.t 71))⟩, ⟨(.some 73), .none, (.bin .lss (.t 69) (.t 72))⟩] false .none) (.cond (.t 73) .skip (.exit 2))) (.seq (.block 3 (.seq (.reg [⟨(.some 76), .none, (.fld 8 (.t 6))⟩, ⟨(.some 77), .none, (.load .none (.t 76))⟩, ⟨(.some 78), .none, (.mv (.t 7))⟩, ⟨(.some 79), .none, (.idx 1 (.t 77) (.t 78))⟩, ⟨(.some 80), .none, (.load .none (.t 79))⟩, ⟨(.some 81), .none, (.len true (.t 80))⟩, ⟨(.some 82), .none, (.bin .gtr (.t 81) (.c (.int .i64 300)))⟩] false .none) (.cond (.t 82) (.seq (.reg [⟨(.some 4), .none, (.mv (.c (.bool false)))⟩] false .none) .ret) .skip))) (.reg [⟨(.some 74), .none, (.mv (.t 7))⟩, ⟨(.some 75), .none, (.bin .add (.t 74) (.c (.int .i64 1)))⟩, ⟨(.some 7), .none, (.mv (.t 75))⟩] false .none)))
theorem f10a (e : Edit) {b : Nat} {s : Nat → Option Blk} {k : Nat → Tk} {t : Nat → A} {Q : PX → St → Prop} (hl : e.refs.length < 4611686018427387904) (hb : t 6 = .ptr b 0) (hi : t 7 = .int .i64 0) (sb : s b = some (.cells (encEdit e)))
    (hfail : e.refs.all (shortS 300) = false → ∀ t', t' 4 = .bool false → Q .ret ⟨t', s, k⟩) (hok : e.refs.all (shortS 300) = true → ∀ t', t' 0 = t 0 → t' 5 = t 5 → t' 6 = t 6 → Q (.exit 2) ⟨t', s, k⟩) : pwp prg (.loop f10aC) Q ⟨t, s, k⟩ := by
  refine loop_intro (fun n st => ∃ j : Nat, st.s = s ∧ st.k = k ∧ st.t 0 = t 0 ∧ st.t 5 = t 5 ∧ st.t 6 = t 6 ∧ st.t 7 = .int .i64 j ∧ n = e.refs.length - j ∧ j ≤ e.refs.length ∧ ∀ i (h : i < e.refs.length), i < j → shortS 300 e.refs[i] = true) e.refs.length ?_ ?_
  · exact ⟨0, rfl, rfl, rfl, rfl, rfl, hi, by omega, by omega, by omega⟩
  · rintro n ⟨t1, s1, k1⟩ ⟨j, hs1, hk1, f0, f5, f6, gi, rfl, hj, hall⟩
    dsimp only at hs1 hk1 f0 f5 f6 gi
    subst hs1 hk1
    have gb : t1 6 = .ptr b 0 := by rw [f6, hb]
    unfold f10aC
    simp only [sZ, initT, optI, splice, reduceIte, reduceCtorEq, Nat.reduceEqDiff, Nat.reduceAdd, Nat.reduceSub, Nat.reduceMul, Nat.reduceLeDiff, Nat.reduceLT, Int.reduceLT, Int.reduceLE, Int.reduceToNat, Int.reduceEq, Int.cast_ofNat_Int, gb, gi, sb, encEdit]
    refine brC_in (fun hlt => ?_) (fun hge => ?_)
    · have hj' : j < e.refs.length := by simpa using hlt
      have hg : (e.refs.map strE.f)[j]? = some (strE.f e.refs[j]) := strE.get hj'
      simp only [strE] at hg
      simp only [sZ, initT, optI, splice, reduceIte, reduceCtorEq, Nat.reduceEqDiff, Nat.reduceAdd, Nat.reduceSub, Nat.reduceMul, Nat.reduceLeDiff, Nat.reduceLT, Int.reduceLT, Int.reduceLE, Int.reduceToNat, Int.reduceEq, Int.cast_ofNat_Int, gb, gi, sb, encEdit, hg, get_str]
      refine brC_in (fun hp1 => ?_) (fun hp0 => ?_)
      · simp only [sZ, initT, optI, splice, reduceIte, reduceCtorEq, Nat.reduceEqDiff, Nat.reduceAdd, Nat.reduceSub, Nat.reduceMul, Nat.reduceLeDiff, Nat.reduceLT, Int.reduceLT, Int.reduceLE, Int.reduceToNat, Int.reduceEq, Int.cast_ofNat_Int]
        refine hfail (all_first hj' ?_) _ ?_
        · simp only [shortS, shortT, hp1, Bool.not_true]
        · simp only [upd_apply, Nat.reduceEqDiff, reduceIte]
      · simp only [sZ, initT, optI, splice, reduceIte, reduceCtorEq, Nat.reduceEqDiff, Nat.reduceAdd, Nat.reduceSub, Nat.reduceMul, Nat.reduceLeDiff, Nat.reduceLT, Int.reduceLT, Int.reduceLE, Int.reduceToNat, Int.reduceEq, Int.cast_ofNat_Int, gb, gi]
        refine nextQ_normal (e.refs.length - (j + 1)) (by omega) (St.le_refl _) ⟨j + 1, rfl, rfl, ?_, ?_, ?_, ?_, rfl, by omega, fun i hi1 hi2 => ?_⟩
        · simp only [upd_apply, Nat.reduceEqDiff, reduceIte]; exact f0
        · simp only [upd_apply, Nat.reduceEqDiff, reduceIte]; exact f5
        · simp only [upd_apply, Nat.reduceEqDiff, reduceIte]; exact f6
        · simp only [upd_apply, Nat.reduceEqDiff, reduceIte]
          rw [wrap64 (by omega) (by omega)]
          rfl
        · by_cases h : i = j
          · subst h; simp only [shortS, shortT, hp0, Bool.not_false]
          · exact hall i hi1 (by omega)
    · have hj' : ¬ j < e.refs.length := by simpa using hge
      simp only [sZ, initT, optI, splice, reduceIte, reduceCtorEq, Nat.reduceEqDiff, Nat.reduceAdd, Nat.reduceSub, Nat.reduceMul, Nat.reduceLeDiff, Nat.reduceLT, Int.reduceLT, Int.reduceLE, Int.reduceToNat, Int.reduceEq, Int.cast_ofNat_Int]
      refine hok (all_through fun i h => hall i h (by omega)) _ ?_ ?_ ?_
      · simp only [upd_apply, Nat.reduceEqDiff, reduceIte]; exact f0
      · simp only [upd_apply, Nat.reduceEqDiff, reduceIte]; exact f5
      · simp only [upd_apply, Nat.reduceEqDiff, reduceIte]; exact f6
def fewO (o : Obj) (most : Int) : Bool := !decide ((300 : Int) < o.id.size) && !decide (most < o.refs.length) && !decide ((65 : Int) < o.tags.length) && o.refs.all (shortS 300) && o.tags.all (shortT 600)
theorem spec20 (o : Obj) (most : Int) (hmost : most ≤ 1000) {s : Nat → Option Blk} {k : Nat → Tk} : Spec prg 55 [.agg (encObj o), .int .i64 most] s k (.bool (fewO o most)) s k := by
  refine spec_tr prg_mixed tr_pref11_Few (Nat.le_of_ble_eq_true rfl) rfl ?_
  unfold pc_pref11_Few rs_pref11_Few
  by_cases c1 : (300 : Int) < o.id.size
  · repeat' (first | (first | (with_reducible refine newS_in ?_; intro _ hid_; simp only [upd_none] at hid_) | (with_reducible refine newR_in ?_; intro _ hid_ hih_; simp only [upd_none, upd_none', rr_eqs2, and_true] at hid_ hih_) | (with_reducible refine mkmS_in ?_; intro _ hid_; simp only [upd_none] at hid_)) | (with_reducible refine brC_in (fun h_ => ?_) (fun h_ => ?_)) | (with_reducible refine brG_in (fun h_ => ?_) (fun h_ => ?_)) | (with_reducible refine brN_in (fun h_ => ?_) (fun h_ => ?_)) | simp only [sZ, initT, optI, splice, reduceIte, reduceCtorEq, Nat.reduceEqDiff, Nat.reduceAdd, Nat.reduceSub, Nat.reduceMul, Nat.reduceLeDiff, Nat.reduceLT, Int.reduceLT, Int.reduceLE, Int.reduceToNat, Int.reduceEq, Int.cast_ofNat_Int, *, encObj])
    refine OutQ.eq (by repeat (first | exact SExt.refl _ | (refine SExt.old ?_ (by first | (simp only [*]; done) | (simp only [upd_none]; assumption) | (simp only [upd_none, *, not_false_eq_true, and_self]; done)) _))) ?_
    simp [fewO, c1]
  by_cases c2 : most < o.refs.length
  · repeat' (first | (first | (with_reducible refine newS_in ?_; intro _ hid_; simp only [upd_none] at hid_) | (with_reducible refine newR_in ?_; intro _ hid_ hih_; simp only [upd_none, upd_none', rr_eqs2, and_true] at hid_ hih_) | (with_reducible refine mkmS_in ?_; intro _ hid_; simp only [upd_none] at hid_)) | (with_reducible refine brC_in (fun h_ => ?_) (fun h_ => ?_)) | (with_reducible refine brG_in (fun h_ => ?_) (fun h_ => ?_)) | (with_reducible refine brN_in (fun h_ => ?_) (fun h_ => ?_)) | simp only [sZ, initT, optI, splice, reduceIte, reduceCtorEq, Nat.reduceEqDiff, Nat.reduceAdd, Nat.reduceSub, Nat.reduceMul, Nat.reduceLeDiff, Nat.reduceLT, Int.reduceLT, Int.reduceLE, Int.reduceToNat, Int.reduceEq, Int.cast_ofNat_Int, *, encObj])
    refine OutQ.eq (by repeat (first | exact SExt.refl _ | (refine SExt.old ?_ (by first | (simp only [*]; done) | (simp only [upd_none]; assumption) | (simp only [upd_none, *, not_false_eq_true, and_self]; done)) _))) ?_
    simp [fewO, c2]
  by_cases c3 : (65 : Int) < o.tags.length
  · repeat' (first | (first | (with_reducible refine newS_in ?_; intro _ hid_; simp only [upd_none] at hid_) | (with_reducible refine newR_in ?_; intro _ hid_ hih_; simp only [upd_none, upd_none', rr_eqs2, and_true] at hid_ hih_) | (with_reducible refine mkmS_in ?_; intro _ hid_; simp only [upd_none] at hid_)) | (with_reducible refine brC_in (fun h_ => ?_) (fun h_ => ?_)) | (with_reducible refine brG_in (fun h_ => ?_) (fun h_ => ?_)) | (with_reducible refine brN_in (fun h_ => ?_) (fun h_ => ?_)) | simp only [sZ, initT, optI, splice, reduceIte, reduceCtorEq, Nat.reduceEqDiff, Nat.reduceAdd, Nat.reduceSub, Nat.reduceMul, Nat.reduceLeDiff, Nat.reduceLT, Int.reduceLT, Int.reduceLE, Int.reduceToNat, Int.reduceEq, Int.cast_ofNat_Int, *, encObj])
    refine OutQ.eq (by repeat (first | exact SExt.refl _ | (refine SExt.old ?_ (by first | (simp only [*]; done) | (simp only [upd_none]; assumption) | (simp only [upd_none, *, not_false_eq_true, and_self]; done)) _))) ?_
    simp [fewO, c3]
  repeat' (first | (first | (with_reducible refine newS_in ?_; intro _ hid_; simp only [upd_none] at hid_) | (with_reducible refine newR_in ?_; intro _ hid_ hih_; simp only [upd_none, upd_none', rr_eqs2, and_true] at hid_ hih_) | (with_reducible refine mkmS_in ?_; intro _ hid_; simp only [upd_none] at hid_)) | (with_reducible refine brC_in (fun h_ => ?_) (fun h_ => ?_)) | (with_reducible refine brG_in (fun h_ => ?_) (fun h_ => ?_)) | (with_reducible refine brN_in (fun h_ => ?_) (fun h_ => ?_)) | simp only [sZ, initT, optI, splice, reduceIte, reduceCtorEq, Nat.reduceEqDiff, Nat.reduceAdd, Nat.reduceSub, Nat.reduceMul, Nat.reduceLeDiff, Nat.reduceLT, Int.reduceLT, Int.reduceLE, Int.reduceToNat, Int.reduceEq, Int.cast_ofNat_Int, *, encObj])
  refine f20a o (by omega) rfl rfl (by simp only [upd_apply, *, reduceIte, encObj]) ?_ ?_
  · intro hf t' h4
    simp only [sZ, initT, optI, splice, reduceIte, reduceCtorEq, Nat.reduceEqDiff, Nat.reduceAdd, Nat.reduceSub, Nat.reduceMul, Nat.reduceLeDiff, Nat.reduceLT, Int.reduceLT, Int.reduceLE, Int.reduceToNat, Int.reduceEq, Int.cast_ofNat_Int, h4]
    refine OutQ.eq (by repeat (first | exact SExt.refl _ | (refine SExt.old ?_ (by first | (simp only [*]; done) | (simp only [upd_none]; assumption) | (simp only [upd_none, *, not_false_eq_true, and_self]; done)) _))) ?_
    simp [fewO, hf]
  · intro hf t' k2
    simp only [upd_apply, Nat.reduceEqDiff, reduceIte] at k2
    simp only [sZ, initT, optI, splice, reduceIte, reduceCtorEq, Nat.reduceEqDiff, Nat.reduceAdd, Nat.reduceSub, Nat.reduceMul, Nat.reduceLeDiff, Nat.reduceLT, Int.reduceLT, Int.reduceLE, Int.reduceToNat, Int.reduceEq, Int.cast_ofNat_Int, k2]
    refine f20b o (by omega) (by simp only [upd_apply, Nat.reduceEqDiff, reduceIte]; exact k2) (by simp only [upd_apply, Nat.reduceEqDiff, reduceIte]) (by simp only [upd_apply, *, reduceIte, encObj]) ?_ ?_
    · intro hf2 t2 h4
      simp only [sZ, initT, optI, splice, reduceIte, reduceCtorEq, Nat.reduceEqDiff, Nat.reduceAdd, Nat.reduceSub, Nat.reduceMul, Nat.reduceLeDiff, Nat.reduceLT, Int.reduceLT, Int.reduceLE, Int.reduceToNat, Int.reduceEq, Int.cast_ofNat_Int, h4]
      refine OutQ.eq (by repeat (first | exact SExt.refl _ | (refine SExt.old ?_ (by first | (simp only [*]; done) | (simp only [upd_none]; assumption) | (simp only [upd_none, *, not_false_eq_true, and_self]; done)) _))) ?_
      simp [fewO, hf2]
    · intro hf2 t2 k2'
      simp only [sZ, initT, optI, splice, reduceIte, reduceCtorEq, Nat.reduceEqDiff, Nat.reduceAdd, Nat.reduceSub, Nat.reduceMul, Nat.reduceLeDiff, Nat.reduceLT, Int.reduceLT, Int.reduceLE, Int.reduceToNat, Int.reduceEq, Int.cast_ofNat_Int]
      refine OutQ.eq (by repeat (first | exact SExt.refl _ | (refine SExt.old ?_ (by first | (simp only [*]; done) | (simp only [upd_none]; assumption) | (simp only [upd_none, *, not_false_eq_true, and_self]; done)) _))) ?_
      simp [fewO, hf, hf2, c1, c2, c3]
def fewM (o : Obj) : Bool := !decide ((12 : Int) < o.refs.length) && !decide ((20 : Int) < o.tags.length) && !decide ((60 : Int) < o.id.size) && o.refs.all (shortS 60) && o.tags.all (shortT 300)
theorem spec14 (m : List Obj) (most : Int) (hmost : most ≤ 1000) {s : Nat → Option Blk} {k : Nat → Tk} : Spec prg 29 [.agg (encMap m), .int .i64 most] s k (.bool (!decide (most < m.length) && m.all fewM)) s k := by
  refine spec_tr prg_mixed tr_pref13_Few (Nat.le_of_ble_eq_true rfl) rfl ?_
  unfold pc_pref13_Few rs_pref13_Few
  simp only [sZ, initT, optI, splice, reduceIte, reduceCtorEq, Nat.reduceEqDiff, Nat.reduceAdd, Nat.reduceSub, Nat.reduceMul, Nat.reduceLeDiff, Nat.reduceLT, Int.reduceLT, Int.reduceLE, Int.reduceToNat, Int.reduceEq, Int.cast_ofNat_Int, encMap]
  (with_reducible refine newS_in ?_); intro b2 h2; simp only [upd_none] at h2
  by_cases c1 : most < m.length
  · repeat' (first | (first | (with_reducible refine newS_in ?_; intro _ hid_; simp only [upd_none] at hid_) | (with_reducible refine newR_in ?_; intro _ hid_ hih_; simp only [upd_none, upd_none', rr_eqs2, and_true] at hid_ hih_) | (with_reducible refine mkmS_in ?_; intro _ hid_; simp only [upd_none] at hid_)) | (with_reducible refine brC_in (fun h_ => ?_) (fun h_ => ?_)) | (with_reducible refine brG_in (fun h_ => ?_) (fun h_ => ?_)) | (with_reducible refine brN_in (fun h_ => ?_) (fun h_ => ?_)) | simp only [sZ, initT, optI, splice, reduceIte, reduceCtorEq, Nat.reduceEqDiff, Nat.reduceAdd, Nat.reduceSub, Nat.reduceMul, Nat.reduceLeDiff, Nat.reduceLT, Int.reduceLT, Int.reduceLE, Int.reduceToNat, Int.reduceEq, Int.cast_ofNat_Int, *])
    refine OutQ.eq (by repeat (first | exact SExt.refl _ | (refine SExt.old ?_ (by first | (simp only [*]; done) | (simp only [upd_none]; assumption) | (simp only [upd_none, *, not_false_eq_true, and_self]; done)) _))) ?_
    simp [c1]
  repeat' (first | (first | (with_reducible refine newS_in ?_; intro _ hid_; simp only [upd_none] at hid_) | (with_reducible refine newR_in ?_; intro _ hid_ hih_; simp only [upd_none, upd_none', rr_eqs2, and_true] at hid_ hih_) | (with_reducible refine mkmS_in ?_; intro _ hid_; simp only [upd_none] at hid_)) | (with_reducible refine brC_in (fun h_ => ?_) (fun h_ => ?_)) | (with_reducible refine brG_in (fun h_ => ?_) (fun h_ => ?_)) | (with_reducible refine brN_in (fun h_ => ?_) (fun h_ => ?_)) | simp only [sZ, initT, optI, splice, reduceIte, reduceCtorEq, Nat.reduceEqDiff, Nat.reduceAdd, Nat.reduceSub, Nat.reduceMul, Nat.reduceLeDiff, Nat.reduceLT, Int.reduceLT, Int.reduceLE, Int.reduceToNat, Int.reduceEq, Int.cast_ofNat_Int, *])
  refine loop_intro (fun n st => ∃ j : Nat, st.s = upd s b2 (some (.cells (encMap m))) ∧ st.k = k ∧ st.t 2 = .ptr b2 0 ∧ st.t 5 = .int .i64 j ∧ n = m.length - j ∧ j ≤ m.length ∧ ∀ i (h : i < m.length), i < j → fewM m[i] = true) m.length ?_ ?_
  · exact ⟨0, rfl, rfl, rfl, rfl, by omega, by omega, by omega⟩
  · rintro n ⟨t1, s1, k1⟩ ⟨j, hs1, hk1, g2, g5, rfl, hj, hall⟩
    dsimp only at hs1 hk1 g2 g5
    subst hs1 hk1
    simp only [sZ, initT, optI, splice, reduceIte, reduceCtorEq, Nat.reduceEqDiff, Nat.reduceAdd, Nat.reduceSub, Nat.reduceMul, Nat.reduceLeDiff, Nat.reduceLT, Int.reduceLT, Int.reduceLE, Int.reduceToNat, Int.reduceEq, Int.cast_ofNat_Int, g2, g5, encMap]
    refine brC_in (fun hlt => ?_) (fun hge => ?_)
    · have hj' : j < m.length := by simpa using hlt
      have hg : (m.map encObj)[j]? = some (encObj m[j]) := objE.get hj'
      have hfail : fewM m[j] = false → m.all fewM = false := fun h => all_first hj' h
      generalize hE : encObj m[j] = E at hg
      have hE1 : List.map A.strip (List.take 6 E) = E := by rw [← hE]; rfl
      have hE2 : List.map A.strip E = E := by rw [← hE]; rfl
      have hE3 : E.length = 6 := by rw [← hE]; rfl
      have hE4 : E[4]? = some (.sl 1 (m[j].refs.map encStr) .no) := by rw [← hE]; rfl
      have hE5 : E[5]? = some (.sl 2 (m[j].tags.map encTag) .no) := by rw [← hE]; rfl
      have hE0 : E[0]? = some (.str m[j].id) := by rw [← hE]; rfl
      have hEd : List.drop 6 [A.str ⟨#[]⟩, .int .i64 0, .int .i64 0, .int .i64 0, .sl 1 [] .nil, .sl 2 [] .nil] = [] := rfl
      simp only [sZ, initT, optI, splice, reduceIte, reduceCtorEq, Nat.reduceEqDiff, Nat.reduceAdd, Nat.reduceSub, Nat.reduceMul, Nat.reduceLeDiff, Nat.reduceLT, Int.reduceLT, Int.reduceLE, Int.reduceToNat, Int.reduceEq, Int.cast_ofNat_Int, g2, g5, hg, hE1, hE2, hE3]
      (with_reducible refine newS_in ?_); intro b6 h6; simp only [upd_none] at h6
      by_cases d1 : (12 : Int) < m[j].refs.length
      · repeat' (first | (first | (with_reducible refine newS_in ?_; intro _ hid_; simp only [upd_none] at hid_) | (with_reducible refine newR_in ?_; intro _ hid_ hih_; simp only [upd_none, upd_none', rr_eqs2, and_true] at hid_ hih_) | (with_reducible refine mkmS_in ?_; intro _ hid_; simp only [upd_none] at hid_)) | (with_reducible refine brC_in (fun h_ => ?_) (fun h_ => ?_)) | (with_reducible refine brG_in (fun h_ => ?_) (fun h_ => ?_)) | (with_reducible refine brN_in (fun h_ => ?_) (fun h_ => ?_)) | simp only [sZ, initT, optI, splice, reduceIte, reduceCtorEq, Nat.reduceEqDiff, Nat.reduceAdd, Nat.reduceSub, Nat.reduceMul, Nat.reduceLeDiff, Nat.reduceLT, Int.reduceLT, Int.reduceLE, Int.reduceToNat, Int.reduceEq, Int.cast_ofNat_Int, *, -hlt, -hall, -hE, -hfail])
        refine OutQ.eq (by repeat (first | exact SExt.refl _ | (refine SExt.old ?_ (by first | (simp only [*]; done) | (simp only [upd_none]; assumption) | (simp only [upd_none, *, not_false_eq_true, and_self]; done)) _))) ?_
        rw [hfail (by simp [fewM, d1])]
        simp
      by_cases d2 : (20 : Int) < m[j].tags.length
      · repeat' (first | (first | (with_reducible refine newS_in ?_; intro _ hid_; simp only [upd_none] at hid_) | (with_reducible refine newR_in ?_; intro _ hid_ hih_; simp only [upd_none, upd_none', rr_eqs2, and_true] at hid_ hih_) | (with_reducible refine mkmS_in ?_; intro _ hid_; simp only [upd_none] at hid_)) | (with_reducible refine brC_in (fun h_ => ?_) (fun h_ => ?_)) | (with_reducible refine brG_in (fun h_ => ?_) (fun h_ => ?_)) | (with_reducible refine brN_in (fun h_ => ?_) (fun h_ => ?_)) | simp only [sZ, initT, optI, splice, reduceIte, reduceCtorEq, Nat.reduceEqDiff, Nat.reduceAdd, Nat.reduceSub, Nat.reduceMul, Nat.reduceLeDiff, Nat.reduceLT, Int.reduceLT, Int.reduceLE, Int.reduceToNat, Int.reduceEq, Int.cast_ofNat_Int, *, -hlt, -hall, -hE, -hfail])
        refine OutQ.eq (by repeat (first | exact SExt.refl _ | (refine SExt.old ?_ (by first | (simp only [*]; done) | (simp only [upd_none]; assumption) | (simp only [upd_none, *, not_false_eq_true, and_self]; done)) _))) ?_
        rw [hfail (by simp [fewM, d2])]
        simp
      by_cases d3 : (60 : Int) < m[j].id.size
      · repeat' (first | (first | (with_reducible refine newS_in ?_; intro _ hid_; simp only [upd_none] at hid_) | (with_reducible refine newR_in ?_; intro _ hid_ hih_; simp only [upd_none, upd_none', rr_eqs2, and_true] at hid_ hih_) | (with_reducible refine mkmS_in ?_; intro _ hid_; simp only [upd_none] at hid_)) | (with_reducible refine brC_in (fun h_ => ?_) (fun h_ => ?_)) | (with_reducible refine brG_in (fun h_ => ?_) (fun h_ => ?_)) | (with_reducible refine brN_in (fun h_ => ?_) (fun h_ => ?_)) | simp only [sZ, initT, optI, splice, reduceIte, reduceCtorEq, Nat.reduceEqDiff, Nat.reduceAdd, Nat.reduceSub, Nat.reduceMul, Nat.reduceLeDiff, Nat.reduceLT, Int.reduceLT, Int.reduceLE, Int.reduceToNat, Int.reduceEq, Int.cast_ofNat_Int, *, -hlt, -hall, -hE, -hfail])
        refine OutQ.eq (by repeat (first | exact SExt.refl _ | (refine SExt.old ?_ (by first | (simp only [*]; done) | (simp only [upd_none]; assumption) | (simp only [upd_none, *, not_false_eq_true, and_self]; done)) _))) ?_
        rw [hfail (by simp [fewM, d3])]
        simp
      repeat' (first | (first | (with_reducible refine newS_in ?_; intro _ hid_; simp only [upd_none] at hid_) | (with_reducible refine newR_in ?_; intro _ hid_ hih_; simp only [upd_none, upd_none', rr_eqs2, and_true] at hid_ hih_) | (with_reducible refine mkmS_in ?_; intro _ hid_; simp only [upd_none] at hid_)) | (with_reducible refine brC_in (fun h_ => ?_) (fun h_ => ?_)) | (with_reducible refine brG_in (fun h_ => ?_) (fun h_ => ?_)) | (with_reducible refine brN_in (fun h_ => ?_) (fun h_ => ?_)) | simp only [sZ, initT, optI, splice, reduceIte, reduceCtorEq, Nat.reduceEqDiff, Nat.reduceAdd, Nat.reduceSub, Nat.reduceMul, Nat.reduceLeDiff, Nat.reduceLT, Int.reduceLT, Int.reduceLE, Int.reduceToNat, Int.reduceEq, Int.cast_ofNat_Int, *, -hlt, -hall, -hE, -hfail])
      refine f14a m[j] (by omega) rfl rfl (by simp only [upd_apply, *, reduceIte]) ?_ ?_
      · intro hf t' h4
        simp only [sZ, initT, optI, splice, reduceIte, reduceCtorEq, Nat.reduceEqDiff, Nat.reduceAdd, Nat.reduceSub, Nat.reduceMul, Nat.reduceLeDiff, Nat.reduceLT, Int.reduceLT, Int.reduceLE, Int.reduceToNat, Int.reduceEq, Int.cast_ofNat_Int, h4]
        refine OutQ.eq (by repeat (first | exact SExt.refl _ | (refine SExt.old ?_ (by first | (simp only [*]; done) | (simp only [upd_none]; assumption) | (simp only [upd_none, *, not_false_eq_true, and_self]; done)) _))) ?_
        rw [hfail (by simp [fewM, hf])]
        simp
      · intro hf t' k2 k5 k6
        simp only [upd_apply, Nat.reduceEqDiff, reduceIte] at k2 k5 k6
        simp only [sZ, initT, optI, splice, reduceIte, reduceCtorEq, Nat.reduceEqDiff, Nat.reduceAdd, Nat.reduceSub, Nat.reduceMul, Nat.reduceLeDiff, Nat.reduceLT, Int.reduceLT, Int.reduceLE, Int.reduceToNat, Int.reduceEq, Int.cast_ofNat_Int, k2, k5, k6]
        refine f14b m[j] (by omega) (by simp only [upd_apply, Nat.reduceEqDiff, reduceIte]; exact k6) (by simp only [upd_apply, Nat.reduceEqDiff, reduceIte]) (by simp only [upd_apply, *, reduceIte]) ?_ ?_
        · intro hf2 t2 h4
          simp only [sZ, initT, optI, splice, reduceIte, reduceCtorEq, Nat.reduceEqDiff, Nat.reduceAdd, Nat.reduceSub, Nat.reduceMul, Nat.reduceLeDiff, Nat.reduceLT, Int.reduceLT, Int.reduceLE, Int.reduceToNat, Int.reduceEq, Int.cast_ofNat_Int, h4]
          refine OutQ.eq (by repeat (first | exact SExt.refl _ | (refine SExt.old ?_ (by first | (simp only [*]; done) | (simp only [upd_none]; assumption) | (simp only [upd_none, *, not_false_eq_true, and_self]; done)) _))) ?_
          rw [hfail (by simp [fewM, hf2])]
          simp
        · intro hf2 t2 q2 q5 q6
          simp only [upd_apply, Nat.reduceEqDiff, reduceIte, k2, k5, g2, g5] at q2 q5
          simp only [sZ, initT, optI, splice, reduceIte, reduceCtorEq, Nat.reduceEqDiff, Nat.reduceAdd, Nat.reduceSub, Nat.reduceMul, Nat.reduceLeDiff, Nat.reduceLT, Int.reduceLT, Int.reduceLE, Int.reduceToNat, Int.reduceEq, Int.cast_ofNat_Int, q2, q5]
          refine nextQ_normal (m.length - (j + 1)) (by omega) (St.le_s (s := upd s b2 (some (.cells (encMap m)))) (SExt.old (SExt.refl _) ?_ _)) ⟨j + 1, rfl, rfl, ?_, ?_, rfl, by omega, fun i hi1 hi2 => ?_⟩
          · exact (upd_none _ _ _ _).2 h6
          · simp only [upd_apply, Nat.reduceEqDiff, reduceIte]; exact q2
          · simp only [upd_apply, Nat.reduceEqDiff, reduceIte]
            rw [wrap64 (by omega) (by omega)]
            rfl
          · by_cases h : i = j
            · subst h; simp [fewM, hf, hf2, d1, d2, d3]
            · exact hall i hi1 (by omega)
    · have hj' : ¬ j < m.length := by simpa using hge
      simp only [sZ, initT, optI, splice, reduceIte, reduceCtorEq, Nat.reduceEqDiff, Nat.reduceAdd, Nat.reduceSub, Nat.reduceMul, Nat.reduceLeDiff, Nat.reduceLT, Int.reduceLT, Int.reduceLE, Int.reduceToNat, Int.reduceEq, Int.cast_ofNat_Int]
      refine OutQ.eq (by repeat (first | exact SExt.refl _ | (refine SExt.old ?_ (by first | (simp only [*]; done) | (simp only [upd_none]; assumption) | (simp only [upd_none, *, not_false_eq_true, and_self]; done)) _))) ?_
      rw [all_through fun i h => hall i h (by omega)]
      simp [c1]
def fewE (e : Edit) : Bool := !decide ((300 : Int) < e.id.size) && !decide ((300 : Int) < e.other.size) && !decide ((300 : Int) < e.node.size) && !decide ((300 : Int) < e.key.size) && !decide ((300 : Int) < e.val.size) && !decide ((20 : Int) < e.refs.length) && fewO e.obj 20 &&
  !decide ((20 : Int) < e.obj.tags.length) && e.refs.all (shortS 300)
theorem spec10 (l : List Edit) (most : Int) (hmost : most ≤ 1000) {s : Nat → Option Blk} {k : Nat → Tk} : Spec prg 30 [.sl 15 (l.map encEdit) .no, .int .i64 most] s k (.bool (!decide (most < l.length) && l.all fewE)) s k := by
  refine spec_tr prg_mixed tr_pref22_Few (Nat.le_of_ble_eq_true rfl) rfl ?_
  unfold pc_pref22_Few rs_pref22_Few
  by_cases c1 : most < l.length
  · repeat' (first | (first | (with_reducible refine newS_in ?_; intro _ hid_; simp only [upd_none] at hid_) | (with_reducible refine newR_in ?_; intro _ hid_ hih_; simp only [upd_none, upd_none', rr_eqs2, and_true] at hid_ hih_) | (with_reducible refine mkmS_in ?_; intro _ hid_; simp only [upd_none] at hid_)) | (with_reducible refine brC_in (fun h_ => ?_) (fun h_ => ?_)) | (with_reducible refine brG_in (fun h_ => ?_) (fun h_ => ?_)) | (with_reducible refine brN_in (fun h_ => ?_) (fun h_ => ?_)) | simp only [sZ, initT, optI, splice, reduceIte, reduceCtorEq, Nat.reduceEqDiff, Nat.reduceAdd, Nat.reduceSub, Nat.reduceMul, Nat.reduceLeDiff, Nat.reduceLT, Int.reduceLT, Int.reduceLE, Int.reduceToNat, Int.reduceEq, Int.cast_ofNat_Int, *])
    refine OutQ.eq (by repeat (first | exact SExt.refl _ | (refine SExt.old ?_ (by first | (simp only [*]; done) | (simp only [upd_none]; assumption) | (simp only [upd_none, *, not_false_eq_true, and_self]; done)) _))) ?_
    simp [c1]
  repeat' (first | (first | (with_reducible refine newS_in ?_; intro _ hid_; simp only [upd_none] at hid_) | (with_reducible refine newR_in ?_; intro _ hid_ hih_; simp only [upd_none, upd_none', rr_eqs2, and_true] at hid_ hih_) | (with_reducible refine mkmS_in ?_; intro _ hid_; simp only [upd_none] at hid_)) | (with_reducible refine brC_in (fun h_ => ?_) (fun h_ => ?_)) | (with_reducible refine brG_in (fun h_ => ?_) (fun h_ => ?_)) | (with_reducible refine brN_in (fun h_ => ?_) (fun h_ => ?_)) | simp only [sZ, initT, optI, splice, reduceIte, reduceCtorEq, Nat.reduceEqDiff, Nat.reduceAdd, Nat.reduceSub, Nat.reduceMul, Nat.reduceLeDiff, Nat.reduceLT, Int.reduceLT, Int.reduceLE, Int.reduceToNat, Int.reduceEq, Int.cast_ofNat_Int, *])
  refine loop_intro (fun n st => ∃ j : Nat, st.s = s ∧ st.k = k ∧ st.t 0 = .sl 15 (l.map encEdit) .no ∧ st.t 5 = .int .i64 j ∧ n = l.length - j ∧ j ≤ l.length ∧ ∀ i (h : i < l.length), i < j → fewE l[i] = true) l.length ?_ ?_
  · exact ⟨0, rfl, rfl, rfl, rfl, by omega, by omega, by omega⟩
  · rintro n ⟨t1, s1, k1⟩ ⟨j, hs1, hk1, g0, g5, rfl, hj, hall⟩
    dsimp only at hs1 hk1 g0 g5
    subst hs1 hk1
    simp only [sZ, initT, optI, splice, reduceIte, reduceCtorEq, Nat.reduceEqDiff, Nat.reduceAdd, Nat.reduceSub, Nat.reduceMul, Nat.reduceLeDiff, Nat.reduceLT, Int.reduceLT, Int.reduceLE, Int.reduceToNat, Int.reduceEq, Int.cast_ofNat_Int, g0, g5]
    refine brC_in (fun hlt => ?_) (fun hge => ?_)
    · have hj' : j < l.length := by simpa using hlt
      have hg : (l.map encEdit)[j]? = some (encEdit l[j]) := editE.get hj'
      have hfail : fewE l[j] = false → l.all fewE = false := fun h => all_first hj' h
      clear hlt
      generalize hE : l[j] = e at hg hfail
      simp only [sZ, initT, optI, splice, reduceIte, reduceCtorEq, Nat.reduceEqDiff, Nat.reduceAdd, Nat.reduceSub, Nat.reduceMul, Nat.reduceLeDiff, Nat.reduceLT, Int.reduceLT, Int.reduceLE, Int.reduceToNat, Int.reduceEq, Int.cast_ofNat_Int, g0, g5, hg, wh_encEdit, st_encEdit, len_encEdit]
      (with_reducible refine newS_in ?_); intro b6 h6; simp only [upd_none] at h6
      by_cases d6 : (20 : Int) < e.refs.length
      · repeat' (first | (refine callS_quiet (spec20 e.obj 20 (by decide)) ?_) | (first | (with_reducible refine newS_in ?_; intro _ hid_; simp only [upd_none] at hid_) | (with_reducible refine newR_in ?_; intro _ hid_ hih_; simp only [upd_none, upd_none', rr_eqs2, and_true] at hid_ hih_) | (with_reducible refine mkmS_in ?_; intro _ hid_; simp only [upd_none] at hid_)) | (with_reducible refine brC_in (fun h_ => ?_) (fun h_ => ?_)) | (with_reducible refine brG_in (fun h_ => ?_) (fun h_ => ?_)) | (with_reducible refine brN_in (fun h_ => ?_) (fun h_ => ?_)) | simp only [sZ, initT, optI, splice, reduceIte, reduceCtorEq, Nat.reduceEqDiff, Nat.reduceAdd, Nat.reduceSub, Nat.reduceMul, Nat.reduceLeDiff, Nat.reduceLT, Int.reduceLT, Int.reduceLE, Int.reduceToNat, Int.reduceEq, Int.cast_ofNat_Int, *, -hfail, -hg, -hall, -hE, encEdit])
        all_goals
          refine OutQ.eq (by repeat (first | exact SExt.refl _ | (refine SExt.old ?_ (by first | (simp only [*]; done) | (simp only [upd_none]; assumption) | (simp only [upd_none, *, not_false_eq_true, and_self]; done)) _))) ?_
          rw [hfail (by simp [fewE, d6])]
          simp
      repeat' (first | (refine callS_quiet (spec20 e.obj 20 (by decide)) ?_) | (first | (with_reducible refine newS_in ?_; intro _ hid_; simp only [upd_none] at hid_) | (with_reducible refine newR_in ?_; intro _ hid_ hih_; simp only [upd_none, upd_none', rr_eqs2, and_true] at hid_ hih_) | (with_reducible refine mkmS_in ?_; intro _ hid_; simp only [upd_none] at hid_)) | (with_reducible refine brC_in (fun h_ => ?_) (fun h_ => ?_)) | (with_reducible refine brG_in (fun h_ => ?_) (fun h_ => ?_)) | (with_reducible refine brN_in (fun h_ => ?_) (fun h_ => ?_)) | simp only [sZ, initT, optI, splice, reduceIte, reduceCtorEq, Nat.reduceEqDiff, Nat.reduceAdd, Nat.reduceSub, Nat.reduceMul, Nat.reduceLeDiff, Nat.reduceLT, Int.reduceLT, Int.reduceLE, Int.reduceToNat, Int.reduceEq, Int.cast_ofNat_Int, *, -hfail, -hg, -hall, -hE, encEdit])
      all_goals first
        | (have h' : fewO e.obj 20 = false := by simpa using h_
           refine OutQ.eq (by repeat (first | exact SExt.refl _ | (refine SExt.old ?_ (by first | (simp only [*]; done) | (simp only [upd_none]; assumption) | (simp only [upd_none, *, not_false_eq_true, and_self]; done)) _))) ?_; rw [hfail (by simp [fewE, h'])]; simp; done)
        | (refine OutQ.eq (by repeat (first | exact SExt.refl _ | (refine SExt.old ?_ (by first | (simp only [*]; done) | (simp only [upd_none]; assumption) | (simp only [upd_none, *, not_false_eq_true, and_self]; done)) _))) ?_; rw [hfail (by simp [fewE, *]; done)]; simp; done)
        | skip
      refine f10a e (by omega) rfl rfl (by simp only [upd_apply, *, reduceIte, encEdit]) ?_ ?_
      · intro hf t' h4
        simp only [sZ, initT, optI, splice, reduceIte, reduceCtorEq, Nat.reduceEqDiff, Nat.reduceAdd, Nat.reduceSub, Nat.reduceMul, Nat.reduceLeDiff, Nat.reduceLT, Int.reduceLT, Int.reduceLE, Int.reduceToNat, Int.reduceEq, Int.cast_ofNat_Int, h4]
        refine OutQ.eq (by repeat (first | exact SExt.refl _ | (refine SExt.old ?_ (by first | (simp only [*]; done) | (simp only [upd_none]; assumption) | (simp only [upd_none, *, not_false_eq_true, and_self]; done)) _))) ?_
        rw [hfail (by simp [fewE, hf])]
        simp
      · intro hf t' k0 k5 k6
        simp only [upd_apply, Nat.reduceEqDiff, reduceIte, g0, g5] at k0 k5
        simp only [sZ, initT, optI, splice, reduceIte, reduceCtorEq, Nat.reduceEqDiff, Nat.reduceAdd, Nat.reduceSub, Nat.reduceMul, Nat.reduceLeDiff, Nat.reduceLT, Int.reduceLT, Int.reduceLE, Int.reduceToNat, Int.reduceEq, Int.cast_ofNat_Int, k0, k5]
        refine nextQ_normal (l.length - (j + 1)) (by omega) (St.le_s (s := s1) (by repeat (first | exact SExt.refl _ | (refine SExt.old ?_ (by first | (simp only [*]; done) | (simp only [upd_none]; assumption) | (simp only [upd_none, *, not_false_eq_true, and_self]; done)) _)))) ⟨j + 1, rfl, rfl, ?_, ?_, rfl, by omega, fun i hi1 hi2 => ?_⟩
        · simp only [upd_apply, Nat.reduceEqDiff, reduceIte]; exact k0
        · simp only [upd_apply, Nat.reduceEqDiff, reduceIte]
          rw [wrap64 (by omega) (by omega)]
          rfl
        · by_cases h : i = j
          · subst h
            rw [hE]
            simp only [Bool.not_eq_false', Bool.not_eq_true'] at *
            simp [fewE, hf, d6, *]
          · exact hall i hi1 (by omega)
    · have hj' : ¬ j < l.length := by simpa using hge
      simp only [sZ, initT, optI, splice, reduceIte, reduceCtorEq, Nat.reduceEqDiff, Nat.reduceAdd, Nat.reduceSub, Nat.reduceMul, Nat.reduceLeDiff, Nat.reduceLT, Int.reduceLT, Int.reduceLE, Int.reduceToNat, Int.reduceEq, Int.cast_ofNat_Int]
      refine OutQ.eq (by repeat (first | exact SExt.refl _ | (refine SExt.old ?_ (by first | (simp only [*]; done) | (simp only [upd_none]; assumption) | (simp only [upd_none, *, not_false_eq_true, and_self]; done)) _))) ?_
      rw [all_through fun i h => hall i h (by omega)]
      simp [c1]
end Go.Pv
