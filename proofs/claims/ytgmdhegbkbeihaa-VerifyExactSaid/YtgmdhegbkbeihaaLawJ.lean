/- The reference's Accept. -/
import Derived.Test.YtgmdhegbkbeihaaLawI
set_option linter.unusedVariables false
set_option linter.unusedSimpArgs false
set_option maxRecDepth 4000
set_option maxHeartbeats 1000000
namespace Go.Pv
open Go

noncomputable def pc9L0 : PC := (.seq (.seq (.reg [⟨(.some 33), .none, (.mv (.t 9))⟩, ⟨(.some 34), .none, (.mv (.t 1))⟩, ⟨(.some 35), .none, (.len false (.t 34))⟩, ⟨(.some 36), .none, (.bin .lss (.t 33) (.t 35))⟩] false .none) (.cond (.t 36) .skip (.exit 0))) (.seq (.block 1 (.seq (.reg [⟨(.some 39), .none, (.mv (.t 1))⟩, ⟨(.some 40), .none, (.mv (.t 9))⟩, ⟨(.some 41), .none, (.idx 15 (.t 39) (.t 40))⟩, ⟨(.some 42), .none, (.fld 0 (.t 41))⟩, ⟨(.some 43), .none, (.load .none (.t 42))⟩, ⟨(.some 44), .none, (.bin .eql (.t 43) (.c (.int .i64 5)))⟩] false .none) (.cond (.t 44) (.reg [⟨(.some 45), .none, (.mv (.t 8))⟩, ⟨(.some 46), .none, (.bin .add (.t 45) (.c (.int .i64 1)))⟩, ⟨(.some 8), .none, (.mv (.t 46))⟩] false .none) .skip))) (.reg [⟨(.some 37), .none, (.mv (.t 9))⟩, ⟨(.some 38), .none, (.bin .add (.t 37) (.c (.int .i64 1)))⟩, ⟨(.some 9), .none, (.mv (.t 38))⟩] false .none)))
noncomputable def pc9L1 : PC := (.seq (.seq (.reg [⟨(.some 57), .none, (.mv (.t 10))⟩, ⟨(.some 58), .none, (.fld 1 (.t 5))⟩, ⟨(.some 59), .none, (.load .none (.t 58))⟩, ⟨(.some 60), .none, (.len false (.t 59))⟩, ⟨(.some 61), .none, (.bin .lss (.t 57) (.t 60))⟩] false .none) (.cond (.t 61) .skip (.exit 2))) (.seq (.block 3 (.seq (.reg [⟨(.some 64), .none, (.fld 1 (.t 5))⟩, ⟨(.some 65), .none, (.load .none (.t 64))⟩, ⟨(.some 66), .none, (.mv (.t 10))⟩, ⟨(.some 67), .none, (.idx 1 (.t 65) (.t 66))⟩, ⟨(.some 68), .none, (.load .none (.t 67))⟩, ⟨(.some 11), .none, (.mv (.t 68))⟩] false .none) (.seq (.seq (.reg [⟨(.some 69), .none, (.mv (.t 11))⟩, ⟨(.some 70), .none, (.bin .lss (.t 69) (.c (.int .i64 0)))⟩, ⟨(.some 71), .none, (.mv (.t 70))⟩, ⟨(.some 72), (.some (71, false)), (.mv (.t 11))⟩, ⟨(.some 73), (.some (71, false)), (.mv (.t 1))⟩, ⟨(.some 74), (.some (71, false)), (.len false (.t 73))⟩, ⟨(.some 75), (.some (71, false)), (.bin .geq (.t 72) (.t 74))⟩, ⟨(.some 76), .none, (.pick (.t 71) (.c (.bool true)) (.t 75))⟩, ⟨(.some 77), .none, (.mv (.t 76))⟩, ⟨(.some 78), (.some (77, false)), (.mv (.t 10))⟩, ⟨(.some 79), (.some (77, false)), (.bin .gtr (.t 78) (.c (.int .i64 0)))⟩, ⟨(.some 80), (.some (77, false)), (.mv (.t 79))⟩, ⟨(.some 81), (.some (80, true)), (.mv (.t 11))⟩, ⟨(.some 82), (.some (80, true)), (.fld 1 (.t 5))⟩, ⟨(.some 83), (.some (80, true)), (.load .none (.t 82))⟩, ⟨(.some 84), (.some (80, true)), (.mv (.t 10))⟩, ⟨(.some 85), (.some (80, true)), (.bin .sub (.t 84) (.c (.int .i64 1)))⟩, ⟨(.some 86), (.some (80, true)), (.idx 1 (.t 83) (.t 85))⟩, ⟨(.some 87), (.some (80, true)), (.load .none (.t 86))⟩, ⟨(.some 88), (.some (80, true)), (.bin .leq (.t 81) (.t 87))⟩, ⟨(.some 89), (.some (77, false)), (.pick (.t 80) (.t 88) (.c (.bool false)))⟩, ⟨(.some 90), .none, (.pick (.t 77) (.c (.bool true)) (.t 89))⟩, ⟨(.some 91), .none, (.mv (.t 90))⟩, ⟨(.some 92), (.some (91, false)), (.load (.some 1) (.t 3))⟩, ⟨(.some 93), (.some (91, false)), (.mv (.t 1))⟩, ⟨(.some 94), (.some (91, false)), (.mv (.t 11))⟩, ⟨(.some 95), (.some (91, false)), (.idx 15 (.t 93) (.t 94))⟩, ⟨(.some 96), (.some (91, false)), (.load (.some 15) (.t 95))⟩, ⟨(.some 97), (.some (91, false)), (.fld 0 (.t 5))⟩, ⟨(.some 98), (.some (91, false)), (.load .none (.t 97))⟩, ⟨(.some 99), (.some (91, false)), (.call true (.c (.fn 18 [])) [(.t 92), (.t 96), (.t 98)])⟩, ⟨(.some 100), (.some (91, false)), (.un .not (.t 99))⟩, ⟨(.some 101), .none, (.pick (.t 91) (.c (.bool true)) (.t 100))⟩] true .none) (.cond (.t 101) (.seq (.reg [⟨(.some 6), .none, (.mv (.c (.bool false)))⟩] false .none) .ret) .skip)) (.seq (.reg [⟨(.some 12), .none, (.mv (.c (.int .i64 0)))⟩] false .none) (.block 4 (.loop (.seq (.seq (.reg [⟨(.some 102), .none, (.mv (.t 12))⟩, ⟨(.some 103), .none, (.mv (.t 10))⟩, ⟨(.some 104), .none, (.bin .lss (.t 102) (.t 103))⟩] false .none) (.cond (.t 104) .skip (.exit 4))) (.seq (.block 5 (.seq (.reg [⟨(.some 107), .none, (.mv (.t 1))⟩, ⟨(.some 108), .none, (.fld 1 (.t 5))⟩, ⟨(.some 109), .none, (.load .none (.t 108))⟩, ⟨(.some 110), .none, (.mv (.t 12))⟩, ⟨(.some 111), .none, (.idx 1 (.t 109) (.t 110))⟩, ⟨(.some 112), .none, (.load .none (.t 111))⟩, ⟨(.some 113), .none, (.idx 15 (.t 107) (.t 112))⟩, ⟨(.some 114), .none, (.load (.some 15) (.t 113))⟩, ⟨(.some 115), .none, (.mv (.t 1))⟩, ⟨(.some 116), .none, (.mv (.t 11))⟩, ⟨(.some 117), .none, (.idx 15 (.t 115) (.t 116))⟩, ⟨(.some 118), .none, (.load (.some 15) (.t 117))⟩, ⟨(.some 119), .none, (.fld 0 (.t 5))⟩, ⟨(.some 120), .none, (.load .none (.t 119))⟩, ⟨(.some 121), .none, (.call true (.c (.fn 19 [])) [(.t 114), (.t 118), (.t 120)])⟩, ⟨(.some 122), .none, (.un .not (.t 121))⟩] true .none) (.cond (.t 122) (.seq (.reg [⟨(.some 6), .none, (.mv (.c (.bool false)))⟩] false .none) .ret) .skip))) (.reg [⟨(.some 105), .none, (.mv (.t 12))⟩, ⟨(.some 106), .none, (.bin .add (.t 105) (.c (.int .i64 1)))⟩, ⟨(.some 12), .none, (.mv (.t 106))⟩] false .none))))))))) (.reg [⟨(.some 62), .none, (.mv (.t 10))⟩, ⟨(.some 63), .none, (.bin .add (.t 62) (.c (.int .i64 1)))⟩, ⟨(.some 10), .none, (.mv (.t 63))⟩] false .none)))
noncomputable def pc9L2 : PC := (.seq (.seq (.reg [⟨(.some 102), .none, (.mv (.t 12))⟩, ⟨(.some 103), .none, (.mv (.t 10))⟩, ⟨(.some 104), .none, (.bin .lss (.t 102) (.t 103))⟩] false .none) (.cond (.t 104) .skip (.exit 4))) (.seq (.block 5 (.seq (.reg [⟨(.some 107), .none, (.mv (.t 1))⟩, ⟨(.some 108), .none, (.fld 1 (.t 5))⟩, ⟨(.some 109), .none, (.load .none (.t 108))⟩, ⟨(.some 110), .none, (.mv (.t 12))⟩, ⟨(.some 111), .none, (.idx 1 (.t 109) (.t 110))⟩, ⟨(.some 112), .none, (.load .none (.t 111))⟩, ⟨(.some 113), .none, (.idx 15 (.t 107) (.t 112))⟩, ⟨(.some 114), .none, (.load (.some 15) (.t 113))⟩, ⟨(.some 115), .none, (.mv (.t 1))⟩, ⟨(.some 116), .none, (.mv (.t 11))⟩, ⟨(.some 117), .none, (.idx 15 (.t 115) (.t 116))⟩, ⟨(.some 118), .none, (.load (.some 15) (.t 117))⟩, ⟨(.some 119), .none, (.fld 0 (.t 5))⟩, ⟨(.some 120), .none, (.load .none (.t 119))⟩, ⟨(.some 121), .none, (.call true (.c (.fn 19 [])) [(.t 114), (.t 118), (.t 120)])⟩, ⟨(.some 122), .none, (.un .not (.t 121))⟩] true .none) (.cond (.t 122) (.seq (.reg [⟨(.some 6), .none, (.mv (.c (.bool false)))⟩] false .none) .ret) .skip))) (.reg [⟨(.some 105), .none, (.mv (.t 12))⟩, ⟨(.some 106), .none, (.bin .add (.t 105) (.c (.int .i64 1)))⟩, ⟨(.some 12), .none, (.mv (.t 106))⟩] false .none)))
theorem op_edit (o : Edit) : (encEdit o)[0]? = some (.int .i64 o.op) := rfl
theorem ref0 (l : List Edit) {s : Nat → Option Blk} {k : Nat → Tk} {t : Nat → A} {Q : PX → St → Prop} (hl : l.length < 4611686018427387904) (h1 : t 1 = .sl 15 (l.map encEdit) .no) (h9 : t 9 = .int .i64 0) (h8 : t 8 = .int .i64 0)
    (hok : ∀ t', t' 1 = t 1 → t' 3 = t 3 → t' 5 = t 5 → t' 8 = .int .i64 (dropsF l) → Q (.exit 0) ⟨t', s, k⟩) : pwp prg (.loop pc9L0) Q ⟨t, s, k⟩ := by
  refine loop_intro (fun n st => ∃ j : Nat, st.s = s ∧ st.k = k ∧ st.t 1 = .sl 15 (l.map encEdit) .no ∧ st.t 3 = t 3 ∧ st.t 5 = t 5 ∧ st.t 9 = .int .i64 j ∧ st.t 8 = .int .i64 (dropsF (l.take j)) ∧ n = l.length - j ∧ j ≤ l.length) l.length ?_ ?_
  · exact ⟨0, rfl, rfl, h1, rfl, rfl, h9, h8, by omega, by omega⟩
  · rintro n ⟨t1, s1, k1⟩ ⟨j, hs1, hk1, g1, g3, g5, g9, g8, rfl, hj⟩
    dsimp only at hs1 hk1 g1 g3 g5 g9 g8
    subst hs1 hk1
    have hd : dropsF (l.take j) ≤ j := by
      have := List.countP_le_length (p := fun e : Edit => decide (e.op = 5)) (l := l.take j)
      rw [List.length_take] at this
      unfold dropsF
      omega
    unfold pc9L0
    simp only [pvZ, lz, nz, rr_one, upd_apply, upd_upd, initT, optI, splice, reduceIte, reduceCtorEq, Nat.reduceEqDiff, Nat.reduceAdd, Nat.reduceSub, Nat.reduceMul, Nat.reduceLeDiff, Nat.reduceLT, Int.reduceLT, Int.reduceLE, Int.reduceToNat, Int.reduceEq, Int.cast_ofNat_Int, and_true, not_false_eq_true, g1, g9]
    refine brC_in (fun hlt => ?_) (fun hge => ?_)
    · have hj' : j < l.length := by simpa using hlt
      have hgl : (l.map encEdit)[j]? = some (encEdit l[j]) := editE.get hj'
      have ht : dropsF (l.take (j + 1)) = dropsF (l.take j) + if l[j].op = 5 then 1 else 0 := by
        unfold dropsF
        rw [List.take_succ_eq_append_getElem hj', List.countP_append, List.countP_singleton]
        simp
      repeat' (first | (with_reducible refine newS_in ?_; intro _ hid_; simp only [upd_none] at hid_) | (with_reducible refine brC_in (fun h_ => ?_) (fun h_ => ?_)) | (with_reducible refine brG_in (fun h_ => ?_) (fun h_ => ?_)) | (with_reducible refine brN_in (fun h_ => ?_) (fun h_ => ?_)) | simp only [pvZ, lz, nz, rr_one, upd_apply, upd_upd, initT, optI, splice, reduceIte, reduceCtorEq, Nat.reduceEqDiff, Nat.reduceAdd, Nat.reduceSub, Nat.reduceMul, Nat.reduceLeDiff, Nat.reduceLT, Int.reduceLT, Int.reduceLE, Int.reduceToNat, Int.reduceEq, Int.cast_ofNat_Int, and_true, not_false_eq_true, *, -hlt, -hok, -ht, hgl, op_edit, g1, g9, g8])
      all_goals
        refine nextQ_normal (l.length - (j + 1)) (by omega) (St.le_refl _) ?_
        refine ⟨j + 1, rfl, rfl, ?_, ?_, ?_, ?_, ?_, rfl, by omega⟩
        · simp only [upd_apply, Nat.reduceEqDiff, reduceIte]; exact g1
        · simp only [upd_apply, Nat.reduceEqDiff, reduceIte]; exact g3
        · simp only [upd_apply, Nat.reduceEqDiff, reduceIte]; exact g5
        · simp only [upd_apply, Nat.reduceEqDiff, reduceIte]
          rw [wrap64 (by omega) (by omega)]
          rfl
        · simp only [upd_apply, Nat.reduceEqDiff, reduceIte]
          simp only [decide_eq_true_eq, decide_eq_false_iff_not] at h_
          rw [ht]
          first
            | rw [if_pos h_, wrap64 (by omega) (by omega)]; rfl
            | rw [if_neg h_]; exact g8
    · have hj' : ¬ j < l.length := by simpa using hge
      have hje : j = l.length := by omega
      subst hje
      simp only [pvZ, lz, nz, rr_one, upd_apply, upd_upd, initT, optI, splice, reduceIte, reduceCtorEq, Nat.reduceEqDiff, Nat.reduceAdd, Nat.reduceSub, Nat.reduceMul, Nat.reduceLeDiff, Nat.reduceLT, Int.reduceLT, Int.reduceLE, Int.reduceToNat, Int.reduceEq, Int.cast_ofNat_Int, and_true, not_false_eq_true]
      refine hok _ ?_ ?_ ?_ ?_
      · simp only [upd_apply, Nat.reduceEqDiff, reduceIte]; rw [g1, h1]
      · simp only [upd_apply, Nat.reduceEqDiff, reduceIte]; exact g3
      · simp only [upd_apply, Nat.reduceEqDiff, reduceIte]; exact g5
      · simp only [upd_apply, Nat.reduceEqDiff, reduceIte]; rw [g8, List.take_length]
def Shown (l : List Edit) (es : List Int) (shown : List Edit) : Prop := ∀ (i : Nat) (h : i < shown.length), ∃ (y : Nat) (hy : y < l.length), es[i]? = some (y : Int) ∧ shown[i] = l[y]
theorem ref2 (l : List Edit) (e : Evid) (shown : List Edit) (x : Nat) (hx : x < l.length) {b5 : Nat} {s : Nat → Option Blk} {k : Nat → Tk} {t : Nat → A} {Q : PX → St → Prop} (hlt : ∀ e ∈ l, e.obj.tags.length < 4611686018427387904) (hsl : shown.length ≤ 10) (hsh : Shown l e.edits shown)
    (h1 : t 1 = .sl 15 (l.map encEdit) .no) (h5 : t 5 = .ptr b5 0) (h10 : t 10 = .int .i64 shown.length) (h11 : t 11 = .int .i64 x) (h12 : t 12 = .int .i64 0) (s5 : s b5 = some (.cells (encEvid e)))
    (hfail : (shown.any fun y => !togF e.kind y l[x]) = true → ∀ t', t' 6 = .bool false → Q .ret ⟨t', s, k⟩) (hok : (shown.any fun y => !togF e.kind y l[x]) = false → ∀ t', t' 1 = t 1 → t' 3 = t 3 → t' 5 = t 5 → t' 10 = t 10 → Q (.exit 4) ⟨t', s, k⟩) :
    pwp prg (.loop pc9L2) Q ⟨t, s, k⟩ := by
  refine loop_intro (fun n st => ∃ j : Nat, st.s = s ∧ st.k = k ∧ st.t 1 = .sl 15 (l.map encEdit) .no ∧ st.t 3 = t 3 ∧ st.t 5 = .ptr b5 0 ∧ st.t 10 = .int .i64 shown.length ∧ st.t 11 = .int .i64 x ∧ st.t 12 = .int .i64 j ∧ n = shown.length - j ∧ j ≤ shown.length ∧
    ∀ i (h : i < shown.length), i < j → (!togF e.kind shown[i] l[x]) = false) shown.length ?_ ?_
  · exact ⟨0, rfl, rfl, h1, rfl, h5, h10, h11, h12, by omega, by omega, by omega⟩
  · rintro n ⟨t1, s1, k1⟩ ⟨j, hs1, hk1, g1, g3, g5, g10, g11, g12, rfl, hj, hall⟩
    dsimp only at hs1 hk1 g1 g3 g5 g10 g11 g12
    subst hs1 hk1
    unfold pc9L2
    simp only [pvZ, lz, nz, rr_one, upd_apply, upd_upd, initT, optI, splice, reduceIte, reduceCtorEq, Nat.reduceEqDiff, Nat.reduceAdd, Nat.reduceSub, Nat.reduceMul, Nat.reduceLeDiff, Nat.reduceLT, Int.reduceLT, Int.reduceLE, Int.reduceToNat, Int.reduceEq, Int.cast_ofNat_Int, and_true, not_false_eq_true, g10, g12]
    refine brC_in (fun hlt' => ?_) (fun hge => ?_)
    · have hj' : j < shown.length := by simpa using hlt'
      obtain ⟨y, hy, hey, hsy⟩ := hsh j hj'
      have hget : (e.edits.map encInt)[j]? = some (encInt y) := by rw [List.getElem?_map, hey]; rfl
      have gy : (l.map encEdit)[y]? = some (encEdit l[y]) := editE.get hy
      have gx : (l.map encEdit)[x]? = some (encEdit l[x]) := editE.get hx
      simp only [pvZ, lz, nz, rr_one, upd_apply, upd_upd, initT, optI, splice, reduceIte, reduceCtorEq, Nat.reduceEqDiff, Nat.reduceAdd, Nat.reduceSub, Nat.reduceMul, Nat.reduceLeDiff, Nat.reduceLT, Int.reduceLT, Int.reduceLE, Int.reduceToNat, Int.reduceEq, Int.cast_ofNat_Int, and_true, not_false_eq_true, g1, g5, g10, g11, g12, s5, encEvid, hget, encInt, gy, gx, len_encEdit, wh_encEdit, st_encEdit]
      refine callQS_quiet (spec19 l[y] l[x] e.kind (hlt _ (List.getElem_mem hy))) ?_
      simp only [pvZ, lz, nz, rr_one, upd_apply, upd_upd, initT, optI, splice, reduceIte, reduceCtorEq, Nat.reduceEqDiff, Nat.reduceAdd, Nat.reduceSub, Nat.reduceMul, Nat.reduceLeDiff, Nat.reduceLT, Int.reduceLT, Int.reduceLE, Int.reduceToNat, Int.reduceEq, Int.cast_ofNat_Int, and_true, not_false_eq_true]
      refine brC_in (fun hp1 => ?_) (fun hp0 => ?_)
      · simp only [pvZ, lz, nz, rr_one, upd_apply, upd_upd, initT, optI, splice, reduceIte, reduceCtorEq, Nat.reduceEqDiff, Nat.reduceAdd, Nat.reduceSub, Nat.reduceMul, Nat.reduceLeDiff, Nat.reduceLT, Int.reduceLT, Int.reduceLE, Int.reduceToNat, Int.reduceEq, Int.cast_ofNat_Int, and_true, not_false_eq_true]
        refine hfail ?_ _ ?_
        · exact List.any_eq_true.2 ⟨shown[j], List.getElem_mem hj', by rw [hsy]; exact hp1⟩
        · simp only [upd_apply, Nat.reduceEqDiff, reduceIte]
      · simp only [pvZ, lz, nz, rr_one, upd_apply, upd_upd, initT, optI, splice, reduceIte, reduceCtorEq, Nat.reduceEqDiff, Nat.reduceAdd, Nat.reduceSub, Nat.reduceMul, Nat.reduceLeDiff, Nat.reduceLT, Int.reduceLT, Int.reduceLE, Int.reduceToNat, Int.reduceEq, Int.cast_ofNat_Int, and_true, not_false_eq_true, g12]
        refine nextQ_normal (shown.length - (j + 1)) (by omega) (St.le_refl _) ⟨j + 1, rfl, rfl, g1, g3, g5, g10, g11, ?_, rfl, by omega, fun i hi1 hi2 => ?_⟩
        · simp only [upd_apply, Nat.reduceEqDiff, reduceIte]
          rw [wrap64 (by omega) (by omega)]
          rfl
        · by_cases h : i = j
          · subst h; rw [hsy]; exact hp0
          · exact hall i hi1 (by omega)
    · have hj' : ¬ j < shown.length := by simpa using hge
      simp only [pvZ, lz, nz, rr_one, upd_apply, upd_upd, initT, optI, splice, reduceIte, reduceCtorEq, Nat.reduceEqDiff, Nat.reduceAdd, Nat.reduceSub, Nat.reduceMul, Nat.reduceLeDiff, Nat.reduceLT, Int.reduceLT, Int.reduceLE, Int.reduceToNat, Int.reduceEq, Int.cast_ofNat_Int, and_true, not_false_eq_true]
      refine hok (any_nothing fun i h => hall i h (by omega)) _ ?_ ?_ ?_ ?_
      · simp only [upd_apply, Nat.reduceEqDiff, reduceIte]; rw [g1, h1]
      · simp only [upd_apply, Nat.reduceEqDiff, reduceIte]; exact g3
      · simp only [upd_apply, Nat.reduceEqDiff, reduceIte]; rw [g5, h5]
      · simp only [upd_apply, Nat.reduceEqDiff, reduceIte]; rw [g10, h10]

theorem ref1 (m : List Obj) (l : List Edit) (e : Evid) {b3 b5 : Nat} {s : Nat → Option Blk} {k : Nat → Tk} {t : Nat → A} {Q : PX → St → Prop} (hm : m.length < 4611686018427387904) (hmt : ∀ o ∈ m, o.tags.length < 4611686018427387904) (hl : l.length < 4611686018427387904)
    (hlt : ∀ e ∈ l, e.obj.tags.length < 4611686018427387904) (hes : e.edits.length ≤ 10)
    (h1 : t 1 = .sl 15 (l.map encEdit) .no) (h3 : t 3 = .ptr b3 0) (h5 : t 5 = .ptr b5 0) (h10 : t 10 = .int .i64 0) (s3 : s b3 = some (.cells (encMap m))) (s5 : s b5 = some (.cells (encEvid e)))
    (hfail : goF (showsF e.kind m) (togF e.kind) l e.edits [] (-1) = false → ∀ t', t' 6 = .bool false → Q .ret ⟨t', s, k⟩) (hok : goF (showsF e.kind m) (togF e.kind) l e.edits [] (-1) = true → ∀ t', Q (.exit 2) ⟨t', s, k⟩) :
    pwp prg (.loop pc9L1) Q ⟨t, s, k⟩ := by
  refine loop_intro (fun n st => ∃ (j : Nat) (shown : List Edit) (last : Int), st.s = s ∧ st.k = k ∧ st.t 1 = .sl 15 (l.map encEdit) .no ∧ st.t 3 = .ptr b3 0 ∧ st.t 5 = .ptr b5 0 ∧ st.t 10 = .int .i64 j ∧ n = e.edits.length - j ∧ j ≤ e.edits.length ∧ shown.length = j ∧ Shown l e.edits shown ∧
    ((j = 0 ∧ last = -1) ∨ ∃ i y : Nat, j = i + 1 ∧ e.edits[i]? = some (y : Int) ∧ last = y) ∧ goF (showsF e.kind m) (togF e.kind) l e.edits [] (-1) = goF (showsF e.kind m) (togF e.kind) l (e.edits.drop j) shown last) e.edits.length ?_ ?_
  · exact ⟨0, [], -1, rfl, rfl, h1, h3, h5, h10, by omega, by omega, rfl, fun i h => absurd h (by simp), .inl ⟨rfl, rfl⟩, by simp⟩
  · rintro n ⟨t1, s1, k1⟩ ⟨j, shown, last, hs1, hk1, g1, g3, g5, g10, rfl, hj, hsl, hsh, hlast, hgo⟩
    dsimp only at hs1 hk1 g1 g3 g5 g10
    subst hs1 hk1
    obtain ⟨kd, es⟩ := e
    dsimp only at *
    unfold pc9L1
    simp only [pvZ, lz, nz, rr_one, upd_apply, upd_upd, initT, optI, splice, reduceIte, reduceCtorEq, Nat.reduceEqDiff, Nat.reduceAdd, Nat.reduceSub, Nat.reduceMul, Nat.reduceLeDiff, Nat.reduceLT, Int.reduceLT, Int.reduceLE, Int.reduceToNat, Int.reduceEq, Int.cast_ofNat_Int, and_true, not_false_eq_true, g5, g10, s5, encEvid]
    refine brC_in (fun hlt' => ?_) (fun hge => ?_)
    · have hj' : j < es.length := by simpa using hlt'
      have he : (es.map encInt)[j]? = some (encInt es[j]) := intE.get hj'
      have hd : es.drop j = es[j] :: es.drop (j + 1) := List.drop_eq_getElem_cons hj'
      rw [hd, goF_cons] at hgo
      by_cases c1 : es[j] < 0
      · have c1' : ¬ last < es[j] := by rcases hlast with ⟨_, rfl⟩ | ⟨i, y, _, _, rfl⟩ <;> omega
        simp only [pvZ, lz, nz, rr_one, upd_apply, upd_upd, initT, optI, splice, reduceIte, reduceCtorEq, Nat.reduceEqDiff, Nat.reduceAdd, Nat.reduceSub, Nat.reduceMul, Nat.reduceLeDiff, Nat.reduceLT, Int.reduceLT, Int.reduceLE, Int.reduceToNat, Int.reduceEq, Int.cast_ofNat_Int, and_true, not_false_eq_true, g1, g5, g10, s5, encEvid, he, encInt, c1]
        refine hfail ?_ _ ?_
        · rw [hgo]; simp [c1']
        · simp only [upd_apply, Nat.reduceEqDiff, reduceIte]
      by_cases c2 : (l.length : Int) ≤ es[j]
      · have c2' : ¬ es[j] < l.length := by omega
        simp only [pvZ, lz, nz, rr_one, upd_apply, upd_upd, initT, optI, splice, reduceIte, reduceCtorEq, Nat.reduceEqDiff, Nat.reduceAdd, Nat.reduceSub, Nat.reduceMul, Nat.reduceLeDiff, Nat.reduceLT, Int.reduceLT, Int.reduceLE, Int.reduceToNat, Int.reduceEq, Int.cast_ofNat_Int, and_true, not_false_eq_true, g1, g5, g10, s5, encEvid, he, encInt, c1, c2]
        refine hfail ?_ _ ?_
        · rw [hgo]; simp [c2']
        · simp only [upd_apply, Nat.reduceEqDiff, reduceIte]
      obtain ⟨x, hx⟩ : ∃ x : Nat, es[j] = x := ⟨es[j].toNat, by omega⟩
      rw [hx] at c1 c2 he hgo
      have hxl : x < l.length := by omega
      have hgx : (l.map encEdit)[x]? = some (encEdit l[x]) := editE.get hxl
      have hshow := fun s k => @spec18 m l[x] kd s k hm hmt
      rcases hlast with ⟨rfl, rfl⟩ | ⟨i, y, rfl, hey, rfl⟩
      · have hex : es[0]? = some (x : Int) := by rw [List.getElem?_eq_getElem hj', hx]
        simp only [Int.toNat_natCast, List.getElem?_eq_getElem hxl, show (-1 : Int) < (x : Int) by omega, show (x : Int) < (l.length : Int) by omega, decide_true, Bool.true_and] at hgo
        simp only [pvZ, lz, nz, rr_one, upd_apply, upd_upd, initT, optI, splice, reduceIte, reduceCtorEq, Nat.reduceEqDiff, Nat.reduceAdd, Nat.reduceSub, Nat.reduceMul, Nat.reduceLeDiff, Nat.reduceLT, Int.reduceLT, Int.reduceLE, Int.reduceToNat, Int.reduceEq, Int.cast_ofNat_Int, and_true, not_false_eq_true, g1, g3, g5, g10, s3, s5, encEvid, encMap, he, encInt, c1, c2, hgx, len_encEdit, wh_encEdit]
        refine callQS_quiet (hshow _ _) ?_
        simp only [pvZ, lz, nz, rr_one, upd_apply, upd_upd, initT, optI, splice, reduceIte, reduceCtorEq, Nat.reduceEqDiff, Nat.reduceAdd, Nat.reduceSub, Nat.reduceMul, Nat.reduceLeDiff, Nat.reduceLT, Int.reduceLT, Int.reduceLE, Int.reduceToNat, Int.reduceEq, Int.cast_ofNat_Int, and_true, not_false_eq_true]
        refine brC_in (fun q1 => ?_) (fun q0 => ?_)
        · have e3 : showsF kd m l[x] = false := by simpa using q1
          simp only [pvZ, lz, nz, rr_one, upd_apply, upd_upd, initT, optI, splice, reduceIte, reduceCtorEq, Nat.reduceEqDiff, Nat.reduceAdd, Nat.reduceSub, Nat.reduceMul, Nat.reduceLeDiff, Nat.reduceLT, Int.reduceLT, Int.reduceLE, Int.reduceToNat, Int.reduceEq, Int.cast_ofNat_Int, and_true, not_false_eq_true]
          refine hfail ?_ _ ?_
          · rw [hgo]; simp [e3, hxl]
          · simp only [upd_apply, Nat.reduceEqDiff, reduceIte]
        · have e3 : showsF kd m l[x] = true := by simpa using q0
          simp only [e3, Bool.true_and] at hgo
          simp only [pvZ, lz, nz, rr_one, upd_apply, upd_upd, initT, optI, splice, reduceIte, reduceCtorEq, Nat.reduceEqDiff, Nat.reduceAdd, Nat.reduceSub, Nat.reduceMul, Nat.reduceLeDiff, Nat.reduceLT, Int.reduceLT, Int.reduceLE, Int.reduceToNat, Int.reduceEq, Int.cast_ofNat_Int, and_true, not_false_eq_true]
          refine ref2 l ⟨kd, es⟩ shown x hxl hlt (by omega) hsh (by simp only [upd_apply, Nat.reduceEqDiff, reduceIte]; exact g1) (by simp only [upd_apply, Nat.reduceEqDiff, reduceIte]; exact g5) (by simp only [upd_apply, Nat.reduceEqDiff, reduceIte]; rw [hsl]; exact g10) (by simp only [upd_apply, Nat.reduceEqDiff, reduceIte]) (by simp only [upd_apply, Nat.reduceEqDiff, reduceIte]) s5 ?_ ?_
          · intro ha t' h6
            simp only [pvZ, lz, nz, rr_one, upd_apply, upd_upd, initT, optI, splice, reduceIte, reduceCtorEq, Nat.reduceEqDiff, Nat.reduceAdd, Nat.reduceSub, Nat.reduceMul, Nat.reduceLeDiff, Nat.reduceLT, Int.reduceLT, Int.reduceLE, Int.reduceToNat, Int.reduceEq, Int.cast_ofNat_Int, and_true, not_false_eq_true]
            refine hfail ?_ _ h6
            rw [hgo, ha]
            rfl
          · intro ha t' k1' k3' k5' k10'
            simp only [upd_apply, Nat.reduceEqDiff, reduceIte, g1, g3, g5, g10] at k1' k3' k5' k10'
            rw [ha] at hgo
            simp only [pvZ, lz, nz, rr_one, upd_apply, upd_upd, initT, optI, splice, reduceIte, reduceCtorEq, Nat.reduceEqDiff, Nat.reduceAdd, Nat.reduceSub, Nat.reduceMul, Nat.reduceLeDiff, Nat.reduceLT, Int.reduceLT, Int.reduceLE, Int.reduceToNat, Int.reduceEq, Int.cast_ofNat_Int, and_true, not_false_eq_true, k10']
            refine nextQ_normal (es.length - (0 + 1)) (by omega) (St.le_refl _) ⟨0 + 1, shown ++ [l[x]], x, rfl, rfl, ?_, ?_, ?_, ?_, rfl, by omega, by simp [hsl], ?_, .inr ⟨0, x, rfl, hex, rfl⟩, by simpa using hgo⟩
            · simp only [upd_apply, Nat.reduceEqDiff, reduceIte]; exact k1'
            · simp only [upd_apply, Nat.reduceEqDiff, reduceIte]; exact k3'
            · simp only [upd_apply, Nat.reduceEqDiff, reduceIte]; exact k5'
            · simp only [upd_apply, Nat.reduceEqDiff, reduceIte]
              rw [wrap64 (by omega) (by omega)]
              rfl
            · intro i' hi'
              by_cases hi2 : i' < shown.length
              · obtain ⟨y', hy', e1, e2⟩ := hsh i' hi2
                exact ⟨y', hy', e1, by rw [List.getElem_append_left hi2]; exact e2⟩
              · have hi3 : i' = shown.length := by
                  simp at hi'
                  omega
                subst hi3
                exact ⟨x, hxl, by rw [hsl]; exact hex, by simp⟩
      · have hex : es[i + 1]? = some (x : Int) := by rw [List.getElem?_eq_getElem hj', hx]
        have c0 : (0 : Int) < ((i + 1 : Nat) : Int) := by omega
        have hw : IntKind.i64.wrap (((i + 1 : Nat) : Int) - 1) = (i : Int) := by
          rw [wrap64 (by omega) (by omega)]
          omega
        have hgi : (es.map encInt)[i]? = some (encInt y) := by rw [List.getElem?_map, hey]; rfl
        by_cases c3 : (x : Int) ≤ y
        · have c3' : ¬ (y : Int) < x := by omega
          simp only [pvZ, lz, nz, rr_one, upd_apply, upd_upd, initT, optI, splice, reduceIte, reduceCtorEq, Nat.reduceEqDiff, Nat.reduceAdd, Nat.reduceSub, Nat.reduceMul, Nat.reduceLeDiff, Nat.reduceLT, Int.reduceLT, Int.reduceLE, Int.reduceToNat, Int.reduceEq, Int.cast_ofNat_Int, and_true, not_false_eq_true, g1, g3, g5, g10, s3, s5, encEvid, encMap, he, encInt, c1, c2, hgx, len_encEdit, wh_encEdit, c0, hw, hgi, c3]
          refine hfail ?_ _ ?_
          · rw [hgo]; simp [c3']
          · simp only [upd_apply, Nat.reduceEqDiff, reduceIte]
        simp only [Int.toNat_natCast, List.getElem?_eq_getElem hxl, show (y : Int) < (x : Int) by omega, show (x : Int) < (l.length : Int) by omega, decide_true, Bool.true_and] at hgo
        simp only [pvZ, lz, nz, rr_one, upd_apply, upd_upd, initT, optI, splice, reduceIte, reduceCtorEq, Nat.reduceEqDiff, Nat.reduceAdd, Nat.reduceSub, Nat.reduceMul, Nat.reduceLeDiff, Nat.reduceLT, Int.reduceLT, Int.reduceLE, Int.reduceToNat, Int.reduceEq, Int.cast_ofNat_Int, and_true, not_false_eq_true, g1, g3, g5, g10, s3, s5, encEvid, encMap, he, encInt, c1, c2, hgx, len_encEdit, wh_encEdit, c0, hw, hgi, c3]
        refine callQS_quiet (hshow _ _) ?_
        simp only [pvZ, lz, nz, rr_one, upd_apply, upd_upd, initT, optI, splice, reduceIte, reduceCtorEq, Nat.reduceEqDiff, Nat.reduceAdd, Nat.reduceSub, Nat.reduceMul, Nat.reduceLeDiff, Nat.reduceLT, Int.reduceLT, Int.reduceLE, Int.reduceToNat, Int.reduceEq, Int.cast_ofNat_Int, and_true, not_false_eq_true]
        refine brC_in (fun q1 => ?_) (fun q0 => ?_)
        · have e3 : showsF kd m l[x] = false := by simpa using q1
          simp only [pvZ, lz, nz, rr_one, upd_apply, upd_upd, initT, optI, splice, reduceIte, reduceCtorEq, Nat.reduceEqDiff, Nat.reduceAdd, Nat.reduceSub, Nat.reduceMul, Nat.reduceLeDiff, Nat.reduceLT, Int.reduceLT, Int.reduceLE, Int.reduceToNat, Int.reduceEq, Int.cast_ofNat_Int, and_true, not_false_eq_true]
          refine hfail ?_ _ ?_
          · rw [hgo]; simp [e3, hxl]
          · simp only [upd_apply, Nat.reduceEqDiff, reduceIte]
        · have e3 : showsF kd m l[x] = true := by simpa using q0
          simp only [e3, Bool.true_and] at hgo
          simp only [pvZ, lz, nz, rr_one, upd_apply, upd_upd, initT, optI, splice, reduceIte, reduceCtorEq, Nat.reduceEqDiff, Nat.reduceAdd, Nat.reduceSub, Nat.reduceMul, Nat.reduceLeDiff, Nat.reduceLT, Int.reduceLT, Int.reduceLE, Int.reduceToNat, Int.reduceEq, Int.cast_ofNat_Int, and_true, not_false_eq_true]
          refine ref2 l ⟨kd, es⟩ shown x hxl hlt (by omega) hsh (by simp only [upd_apply, Nat.reduceEqDiff, reduceIte]; exact g1) (by simp only [upd_apply, Nat.reduceEqDiff, reduceIte]; exact g5) (by simp only [upd_apply, Nat.reduceEqDiff, reduceIte]; rw [hsl]; exact g10) (by simp only [upd_apply, Nat.reduceEqDiff, reduceIte]) (by simp only [upd_apply, Nat.reduceEqDiff, reduceIte]) s5 ?_ ?_
          · intro ha t' h6
            simp only [pvZ, lz, nz, rr_one, upd_apply, upd_upd, initT, optI, splice, reduceIte, reduceCtorEq, Nat.reduceEqDiff, Nat.reduceAdd, Nat.reduceSub, Nat.reduceMul, Nat.reduceLeDiff, Nat.reduceLT, Int.reduceLT, Int.reduceLE, Int.reduceToNat, Int.reduceEq, Int.cast_ofNat_Int, and_true, not_false_eq_true]
            refine hfail ?_ _ h6
            rw [hgo, ha]
            rfl
          · intro ha t' k1' k3' k5' k10'
            simp only [upd_apply, Nat.reduceEqDiff, reduceIte, g1, g3, g5, g10] at k1' k3' k5' k10'
            rw [ha] at hgo
            simp only [pvZ, lz, nz, rr_one, upd_apply, upd_upd, initT, optI, splice, reduceIte, reduceCtorEq, Nat.reduceEqDiff, Nat.reduceAdd, Nat.reduceSub, Nat.reduceMul, Nat.reduceLeDiff, Nat.reduceLT, Int.reduceLT, Int.reduceLE, Int.reduceToNat, Int.reduceEq, Int.cast_ofNat_Int, and_true, not_false_eq_true, k10']
            refine nextQ_normal (es.length - ((i + 1) + 1)) (by omega) (St.le_refl _) ⟨(i + 1) + 1, shown ++ [l[x]], x, rfl, rfl, ?_, ?_, ?_, ?_, rfl, by omega, by simp [hsl], ?_, .inr ⟨(i + 1), x, rfl, hex, rfl⟩, by simpa using hgo⟩
            · simp only [upd_apply, Nat.reduceEqDiff, reduceIte]; exact k1'
            · simp only [upd_apply, Nat.reduceEqDiff, reduceIte]; exact k3'
            · simp only [upd_apply, Nat.reduceEqDiff, reduceIte]; exact k5'
            · simp only [upd_apply, Nat.reduceEqDiff, reduceIte]
              rw [wrap64 (by omega) (by omega)]
              rfl
            · intro i' hi'
              by_cases hi2 : i' < shown.length
              · obtain ⟨y', hy', e1, e2⟩ := hsh i' hi2
                exact ⟨y', hy', e1, by rw [List.getElem_append_left hi2]; exact e2⟩
              · have hi3 : i' = shown.length := by
                  simp at hi'
                  omega
                subst hi3
                exact ⟨x, hxl, by rw [hsl]; exact hex, by simp⟩
    · have hj' : ¬ j < es.length := by simpa using hge
      have hje : j = es.length := by omega
      subst hje
      simp only [pvZ, lz, nz, rr_one, upd_apply, upd_upd, initT, optI, splice, reduceIte, reduceCtorEq, Nat.reduceEqDiff, Nat.reduceAdd, Nat.reduceSub, Nat.reduceMul, Nat.reduceLeDiff, Nat.reduceLT, Int.reduceLT, Int.reduceLE, Int.reduceToNat, Int.reduceEq, Int.cast_ofNat_Int, and_true, not_false_eq_true]
      refine hok ?_ _
      rw [hgo, List.drop_length]
      rfl
end Go.Pv
