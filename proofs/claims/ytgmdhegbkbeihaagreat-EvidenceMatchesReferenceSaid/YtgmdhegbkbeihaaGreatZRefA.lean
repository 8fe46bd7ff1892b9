/- The reference's names. -/
import Derived.Test.YtgmdhegbkbeihaaGreatZEvD
import Derived.Test.YtgmdhegbkbeihaaGreatZPvTr
import Derived.Test.YtgmdhegbkbeihaaGreatZEvG
set_option linter.unusedVariables false
set_option linter.unusedSimpArgs false
set_option maxRecDepth 4000
set_option maxHeartbeats 2000000
namespace Go.Pv
open Go

def letB (c : Int) : Bool := (decide (97 ≤ c) && decide (c ≤ 122)) || (decide (65 ≤ c) && decide (c ≤ 90))
def digB (c : Int) : Bool := decide (48 ≤ c) && decide (c ≤ 57)
def wordB (c : Int) : Bool := letB c || (digB c || decide (c = 95))
theorem spec_letter (c : Int) {s : Nat → Option Blk} {k : Nat → Tk} : Spec prg 148 [.int .u8 c] s k (.bool (letB c)) s k := by
  refine spec_tr prg_mixed tr_pref08_letter (Nat.le_of_ble_eq_true rfl) rfl ?_
  unfold pc_pref08_letter rs_pref08_letter
  repeat' (first | (first | (with_reducible refine newS_in ?_; intro _ hid_; simp only [upd_none] at hid_) | (with_reducible refine newR_in ?_; intro _ hid_ hih_; simp only [upd_none, upd_none', rr_eqs2, and_true] at hid_ hih_) | (with_reducible refine mkmS_in ?_; intro _ hid_; simp only [upd_none] at hid_)) | (with_reducible refine brC_in (fun h_ => ?_) (fun h_ => ?_)) | (with_reducible refine brG_in (fun h_ => ?_) (fun h_ => ?_)) | (with_reducible refine brN_in (fun h_ => ?_) (fun h_ => ?_)) | simp only [sZ, initT, optI, splice, reduceIte, reduceCtorEq, Nat.reduceEqDiff, Nat.reduceAdd, Nat.reduceSub, Nat.reduceMul, Nat.reduceLeDiff, Nat.reduceLT, Int.reduceLT, Int.reduceLE, Int.reduceToNat, Int.reduceEq, Int.cast_ofNat_Int, *])
  all_goals refine OutQ.eq (by repeat (first | exact SExt.refl _ | (refine SExt.old ?_ (by first | (simp only [*]; done) | (simp only [upd_none]; assumption) | (simp only [upd_none, *, not_false_eq_true, and_self]; done)) _))) ?_
  all_goals simp only [letB, *, Bool.true_and, Bool.false_and, Bool.and_true, Bool.and_false, Bool.true_or, Bool.false_or, Bool.or_true, Bool.or_false]
theorem spec_digit (c : Int) {s : Nat → Option Blk} {k : Nat → Tk} : Spec prg 179 [.int .u8 c] s k (.bool (digB c)) s k := by
  refine spec_tr prg_mixed tr_pref08_digit (Nat.le_of_ble_eq_true rfl) rfl ?_
  unfold pc_pref08_digit rs_pref08_digit
  repeat' (first | (first | (with_reducible refine newS_in ?_; intro _ hid_; simp only [upd_none] at hid_) | (with_reducible refine newR_in ?_; intro _ hid_ hih_; simp only [upd_none, upd_none', rr_eqs2, and_true] at hid_ hih_) | (with_reducible refine mkmS_in ?_; intro _ hid_; simp only [upd_none] at hid_)) | (with_reducible refine brC_in (fun h_ => ?_) (fun h_ => ?_)) | (with_reducible refine brG_in (fun h_ => ?_) (fun h_ => ?_)) | (with_reducible refine brN_in (fun h_ => ?_) (fun h_ => ?_)) | simp only [sZ, initT, optI, splice, reduceIte, reduceCtorEq, Nat.reduceEqDiff, Nat.reduceAdd, Nat.reduceSub, Nat.reduceMul, Nat.reduceLeDiff, Nat.reduceLT, Int.reduceLT, Int.reduceLE, Int.reduceToNat, Int.reduceEq, Int.cast_ofNat_Int, *])
  all_goals refine OutQ.eq (by repeat (first | exact SExt.refl _ | (refine SExt.old ?_ (by first | (simp only [*]; done) | (simp only [upd_none]; assumption) | (simp only [upd_none, *, not_false_eq_true, and_self]; done)) _))) ?_
  all_goals simp only [digB, *, Bool.true_and, Bool.false_and, Bool.and_true, Bool.and_false]
theorem spec_wordr (c : Int) {s : Nat → Option Blk} {k : Nat → Tk} : Spec prg 147 [.int .u8 c] s k (.bool (wordB c)) s k := by
  refine spec_tr prg_mixed tr_pref08_word (Nat.le_of_ble_eq_true rfl) rfl ?_
  unfold pc_pref08_word rs_pref08_word
  repeat' (first | (refine callS_quiet (spec_letter _) ?_) | (refine callS_quiet (spec_digit _) ?_) | (first | (with_reducible refine newS_in ?_; intro _ hid_; simp only [upd_none] at hid_) | (with_reducible refine newR_in ?_; intro _ hid_ hih_; simp only [upd_none, upd_none', rr_eqs2, and_true] at hid_ hih_) | (with_reducible refine mkmS_in ?_; intro _ hid_; simp only [upd_none] at hid_)) | (with_reducible refine brC_in (fun h_ => ?_) (fun h_ => ?_)) | (with_reducible refine brG_in (fun h_ => ?_) (fun h_ => ?_)) | (with_reducible refine brN_in (fun h_ => ?_) (fun h_ => ?_)) | simp only [sZ, initT, optI, splice, reduceIte, reduceCtorEq, Nat.reduceEqDiff, Nat.reduceAdd, Nat.reduceSub, Nat.reduceMul, Nat.reduceLeDiff, Nat.reduceLT, Int.reduceLT, Int.reduceLE, Int.reduceToNat, Int.reduceEq, Int.cast_ofNat_Int, *])
  all_goals refine OutQ.eq (by repeat (first | exact SExt.refl _ | (refine SExt.old ?_ (by first | (simp only [*]; done) | (simp only [upd_none]; assumption) | (simp only [upd_none, *, not_false_eq_true, and_self]; done)) _))) ?_
  all_goals simp only [wordB, *, Bool.true_or, Bool.false_or, Bool.or_true, Bool.or_false]
theorem cls_let : ((List.range 256).all fun c => (decide (clsF c = 3) == letB c) && ((decide (clsF c = 3) || (decide (clsF c = 4) || decide (clsF c = 5))) == wordB c)) = true := by kernel_rfl
theorem cls_let1 {c : Nat} (h : c < 256) : decide (clsF c = 3) = letB c ∧ (decide (clsF c = 3) || (decide (clsF c = 4) || decide (clsF c = 5))) = wordB c := by
  have := List.all_eq_true.1 cls_let c (List.mem_range.2 h)
  simpa using this
def btI (s : ByteArray) (i : Nat) : Int := (bt s i).toNat
def nameR (s : ByteArray) : Bool := (List.range s.size).all (fun i => wordB (btI s i)) && (decide (0 < s.size) && (decide (s.size ≤ 24) && letB (btI s 0)))
theorem nameR_eq (s : ByteArray) : nameR s = nameF s := by
  have hz : (s = ⟨#[]⟩) ↔ s.size = 0 := ⟨fun h => by rw [h]; rfl, fun h => ByteArray.ext (Array.eq_empty_of_size_eq_zero h)⟩
  have hok : ∀ i, okB s i = if i = 0 then letB (btI s 0) else wordB (btI s i) := by
    intro i
    obtain ⟨h1, h2⟩ := cls_let1 (bt_lt s i)
    unfold okB okN
    by_cases c : i = 0
    · subst c
      rw [if_pos rfl]
      simp only [decide_true, Bool.not_true, Bool.false_and, Bool.or_false]
      exact h1
    · rw [if_neg c, decide_eq_false c]
      simp only [Bool.not_false, Bool.true_and]
      exact h2
  have hlw : ∀ c : Int, letB c = true → wordB c = true := fun c h => by unfold wordB; rw [h]; rfl
  unfold nameR nameF
  rw [Bool.eq_iff_iff]
  simp only [Bool.and_eq_true, decide_eq_true_eq, Bool.not_eq_true', decide_eq_false_iff_not, List.all_eq_true, List.mem_range, hz]
  constructor
  · rintro ⟨a, b, c, d⟩
    refine ⟨fun i hi => ?_, by omega, c⟩
    rw [hok]
    split
    · exact d
    · exact a i hi
  · rintro ⟨a, b, c⟩
    refine ⟨fun i hi => ?_, by omega, c, ?_⟩
    · have := a i hi
      rw [hok] at this
      split at this
      · rename_i e
        subst e
        exact hlw _ this
      · exact this
    · have := a 0 (by omega)
      rw [hok, if_pos rfl] at this
      exact this
theorem spec_Namer (s : ByteArray) (hs : s.size < 4611686018427387904) {h : Nat → Option Blk} {k : Nat → Tk} : Spec prg 110 [.str s] h k (.bool (nameF s)) h k := by
  refine spec_tr prg_mixed tr_pref08_Name (Nat.le_of_ble_eq_true rfl) rfl ?_
  unfold pc_pref08_Name rs_pref08_Name
  rw [← nameR_eq]
  simp only [sZ, initT, optI, splice, reduceIte, reduceCtorEq, Nat.reduceEqDiff, Nat.reduceAdd, Nat.reduceSub, Nat.reduceMul, Nat.reduceLeDiff, Nat.reduceLT, Int.reduceLT, Int.reduceLE, Int.reduceToNat, Int.reduceEq, Int.cast_ofNat_Int]
  refine loop_L (α := Unit) s.size (fun j _ => [(0, .str s), (2, .bool false), (3, .int .i64 j)]) (fun _ _ => h) (fun _ _ => k) (fun j _ => (List.range j).all (fun i => wordB (btI s i)) = true) () (SExt.refl _) rfl (by (try simp only [TabLe_cons, TabLe_nil, tab_cons, tab_nil, upd_apply, Nat.reduceEqDiff, reduceIte, and_true]); repeat' (first | exact trivial | exact A.le_refl _ | exact le_strip_no _ _ _ | exact A.le_no _ _ _ | exact A.le_empty _ _ _ | refine And.intro ?_ ?_)) rfl ?_
  rintro j ⟨⟩ hj hall
  try dsimp only
  simp only [sZ, initT, optI, splice, reduceIte, reduceCtorEq, Nat.reduceEqDiff, Nat.reduceAdd, Nat.reduceSub, Nat.reduceMul, Nat.reduceLeDiff, Nat.reduceLT, Int.reduceLT, Int.reduceLE, Int.reduceToNat, Int.reduceEq, Int.cast_ofNat_Int]
  refine brC_in (fun hlt => ?_) (fun hge => ?_)
  · have hj' : j < s.size := by have := of_decide_eq_true hlt; omega
    clear hlt
    have hw := wrap_succ hj' (by omega)
    have g1 : (0 : Int) ≤ j := by omega
    have g2 : (j : Int) < s.size := by omega
    have hn := range_take_all (fun i => wordB (btI s i)) s.size hj'
    rw [hall, Bool.true_and] at hn
    have hb : ((bt s j).toNat : Int) = btI s j := rfl
    simp only [sZ, initT, optI, splice, reduceIte, reduceCtorEq, Nat.reduceEqDiff, Nat.reduceAdd, Nat.reduceSub, Nat.reduceMul, Nat.reduceLeDiff, Nat.reduceLT, Int.reduceLT, Int.reduceLE, Int.reduceToNat, Int.reduceEq, Int.cast_ofNat_Int, g1, g2, Int.toNat_natCast]
    refine callS_quiet (spec_wordr _) ?_
    rw [hb]
    cases hwd : wordB (btI s j)
    · have hno : nameR s = false := by
        unfold nameR
        have : (List.range s.size).all (fun i => wordB (btI s i)) = false := by
          rw [List.all_eq_false]
          exact ⟨j, List.mem_range.2 hj', by rw [hwd]; simp⟩
        rw [this, Bool.false_and]
      rw [hno]
      simp only [sZ, initT, optI, splice, reduceIte, reduceCtorEq, Nat.reduceEqDiff, Nat.reduceAdd, Nat.reduceSub, Nat.reduceMul, Nat.reduceLeDiff, Nat.reduceLT, Int.reduceLT, Int.reduceLE, Int.reduceToNat, Int.reduceEq, Int.cast_ofNat_Int, Bool.not_false]
      refine OutQ.eq (by repeat (first | exact SExt.refl _ | (refine SExt.old ?_ (by first | (simp only [*]; done) | (simp only [upd_none]; assumption) | (simp only [upd_none, *, not_false_eq_true, and_self]; done)) _))) rfl
    · rw [hwd] at hn
      simp only [sZ, initT, optI, splice, reduceIte, reduceCtorEq, Nat.reduceEqDiff, Nat.reduceAdd, Nat.reduceSub, Nat.reduceMul, Nat.reduceLeDiff, Nat.reduceLT, Int.reduceLT, Int.reduceLE, Int.reduceToNat, Int.reduceEq, Int.cast_ofNat_Int, hw, Bool.not_true]
      exact next_L hj' () (SExt.refl _) rfl (by (try simp only [TabLe_cons, TabLe_nil, tab_cons, tab_nil, upd_apply, Nat.reduceEqDiff, reduceIte, and_true]); repeat' (first | exact trivial | exact A.le_refl _ | exact le_strip_no _ _ _ | exact A.le_no _ _ _ | exact A.le_empty _ _ _ | refine And.intro ?_ ?_)) hn
  · have hje : j = s.size := by have := of_decide_eq_false hge; omega
    subst hje
    have hd : decide ((s.size : Int) ≤ 24) = decide (s.size ≤ 24) := by simp; omega
    have h0 : decide ((0 : Int) < (s.size : Int)) = decide (0 < s.size) := by simp
    have hn : nameR s = (decide (0 < s.size) && (decide (s.size ≤ 24) && letB (btI s 0))) := by unfold nameR; rw [hall, Bool.true_and]
    rw [hn]
    by_cases c : 0 < s.size
    · have g2 : (0 : Int) < (s.size : Int) := by omega
      have hb : ((bt s 0).toNat : Int) = btI s 0 := rfl
      repeat' (first | (refine callS_quiet (spec_letter _) ?_) | (first | (with_reducible refine newS_in ?_; intro _ hid_; simp only [upd_none] at hid_) | (with_reducible refine newR_in ?_; intro _ hid_ hih_; simp only [upd_none, upd_none', rr_eqs2, and_true] at hid_ hih_) | (with_reducible refine mkmS_in ?_; intro _ hid_; simp only [upd_none] at hid_)) | (with_reducible refine brC_in (fun h_ => ?_) (fun h_ => ?_)) | (with_reducible refine brG_in (fun h_ => ?_) (fun h_ => ?_)) | (with_reducible refine brN_in (fun h_ => ?_) (fun h_ => ?_)) | simp only [sZ, initT, optI, splice, reduceIte, reduceCtorEq, Nat.reduceEqDiff, Nat.reduceAdd, Nat.reduceSub, Nat.reduceMul, Nat.reduceLeDiff, Nat.reduceLT, Int.reduceLT, Int.reduceLE, Int.reduceToNat, Int.reduceEq, Int.cast_ofNat_Int, *, hd, h0, decide_eq_true c, g2, hb, -hall, -hn])
      all_goals refine OutQ.eq (by repeat (first | exact SExt.refl _ | (refine SExt.old ?_ (by first | (simp only [*]; done) | (simp only [upd_none]; assumption) | (simp only [upd_none, *, not_false_eq_true, and_self]; done)) _))) ?_
      all_goals simp only [*, Bool.true_and, Bool.false_and, Bool.and_true, Bool.and_false, decide_true]
    · have e0 := decide_eq_false c
      simp only [sZ, initT, optI, splice, reduceIte, reduceCtorEq, Nat.reduceEqDiff, Nat.reduceAdd, Nat.reduceSub, Nat.reduceMul, Nat.reduceLeDiff, Nat.reduceLT, Int.reduceLT, Int.reduceLE, Int.reduceToNat, Int.reduceEq, Int.cast_ofNat_Int, hd, h0, e0]
      refine OutQ.eq (by repeat (first | exact SExt.refl _ | (refine SExt.old ?_ (by first | (simp only [*]; done) | (simp only [upd_none]; assumption) | (simp only [upd_none, *, not_false_eq_true, and_self]; done)) _))) rfl
theorem bl_total : ∀ x y : List UInt8, (!Op.bytesLess x y) = (Op.bytesLess y x || decide (x = y))
  | [], [] => rfl
  | [], b :: y => rfl
  | a :: x, [] => rfl
  | a :: x, b :: y => by
    have ih := bl_total x y
    have e : decide (a :: x = b :: y) = (decide (a = b) && decide (x = y)) := by rw [← Bool.decide_and]; exact decide_eq_decide.2 (by simp)
    unfold Op.bytesLess
    rw [e]
    by_cases h : a = b
    · subst h
      have hl : decide (a < a) = false := decide_eq_false (UInt8.lt_irrefl a)
      simp only [hl, beq_self_eq_true, Bool.false_or, Bool.true_and, decide_true, ih]
    · have hn : (a == b) = false := by simpa using h
      have hn' : (b == a) = false := by simpa using fun e => h e.symm
      have ht : (!decide (a < b)) = decide (b < a) := by
        rw [Bool.eq_iff_iff]
        simp only [Bool.not_eq_true', decide_eq_false_iff_not, decide_eq_true_eq]
        rw [UInt8.not_lt]
        constructor
        · intro h2
          rcases UInt8.lt_or_eq_of_le h2 with h3 | h3
          · exact h3
          · exact absurd h3.symm h
        · exact UInt8.le_of_lt
      simp only [hn, hn', Bool.false_and, Bool.or_false, decide_eq_false h, ht]
theorem lt_total (a b : ByteArray) : (!ltS a b) = leS b a := by
  unfold leS ltS
  rw [bl_total]
  congr 1
  rw [Bool.eq_iff_iff, decide_eq_true_eq, decide_eq_true_eq]
  constructor
  · intro h
    exact (ByteArray.ext (Array.toList_inj.1 h)).symm
  · intro h
    rw [h]
theorem le_nil {a : ByteArray} (h : nameF a = true) : leS a ⟨#[]⟩ = false := by
  have hne : a ≠ ⟨#[]⟩ := by
    unfold nameF at h
    simp only [Bool.and_eq_true, Bool.not_eq_true', decide_eq_false_iff_not] at h
    exact h.2.1
  unfold leS ltS
  rw [decide_eq_false hne, Bool.or_false]
  cases a.data.toList <;> rfl
theorem pos_ne (v : ByteArray) : (!decide (v = ⟨#[]⟩)) = decide (0 < v.size) := by
  rw [Bool.eq_iff_iff]
  simp only [Bool.not_eq_true', decide_eq_false_iff_not, decide_eq_true_eq]
  constructor
  · intro h
    by_cases c : v.size = 0
    · exact absurd (ByteArray.ext (Array.eq_empty_of_size_eq_zero c)) h
    · omega
  · intro h e
    subst e
    exact absurd h (by decide)
theorem spec_tagsr (l : List Tag) (hl : l.length < 4611686018427387904) (ht : ∀ t ∈ l, TagFit t) {s : Nat → Option Blk} {k : Nat → Tk} : Spec prg 122 [.sl 2 (l.map encTag) .no] s k (.bool (tagsV l)) s k := by
  refine spec_tr prg_mixed tr_pref11_Tags (Nat.le_of_ble_eq_true rfl) rfl ?_
  unfold pc_pref11_Tags rs_pref11_Tags
  by_cases c60 : 60 < l.length
  · have d := decide_eq_true (by omega : (60 : Int) < (l.length : Int))
    have : tagsV l = false := by unfold tagsV; rw [decide_eq_false (by omega : ¬ l.length ≤ 60), Bool.and_false]
    rw [this]
    simp only [sZ, initT, optI, splice, reduceIte, reduceCtorEq, Nat.reduceEqDiff, Nat.reduceAdd, Nat.reduceSub, Nat.reduceMul, Nat.reduceLeDiff, Nat.reduceLT, Int.reduceLT, Int.reduceLE, Int.reduceToNat, Int.reduceEq, Int.cast_ofNat_Int, d]
    refine OutQ.eq (by repeat (first | exact SExt.refl _ | (refine SExt.old ?_ (by first | (simp only [*]; done) | (simp only [upd_none]; assumption) | (simp only [upd_none, *, not_false_eq_true, and_self]; done)) _))) rfl
  have d := decide_eq_false (by omega : ¬ (60 : Int) < (l.length : Int))
  simp only [sZ, initT, optI, splice, reduceIte, reduceCtorEq, Nat.reduceEqDiff, Nat.reduceAdd, Nat.reduceSub, Nat.reduceMul, Nat.reduceLeDiff, Nat.reduceLT, Int.reduceLT, Int.reduceLE, Int.reduceToNat, Int.reduceEq, Int.cast_ofNat_Int, d]
  refine loop_L (α := Unit) l.length (fun j _ => [(0, .sl 2 (l.map encTag) .no), (3, .int .i64 j)]) (fun j _ => s) (fun _ _ => k) (fun j _ => chain tagOK Tag.key ⟨#[]⟩ (l.take j) = true) () (SExt.refl _) rfl (by (try simp only [TabLe_cons, TabLe_nil, tab_cons, tab_nil, upd_apply, Nat.reduceEqDiff, reduceIte, and_true]); repeat' (first | exact trivial | exact A.le_refl _ | exact le_strip_no _ _ _ | exact A.le_no _ _ _ | exact A.le_empty _ _ _ | refine And.intro ?_ ?_)) rfl ?_
  rintro j ⟨⟩ hj hall
  try dsimp only
  simp only [sZ, initT, optI, splice, reduceIte, reduceCtorEq, Nat.reduceEqDiff, Nat.reduceAdd, Nat.reduceSub, Nat.reduceMul, Nat.reduceLeDiff, Nat.reduceLT, Int.reduceLT, Int.reduceLE, Int.reduceToNat, Int.reduceEq, Int.cast_ofNat_Int]
  refine brC_in (fun hlt => ?_) (fun hge => ?_)
  · have hj' : j < l.length := by have := of_decide_eq_true hlt; omega
    clear hlt
    have hw := wrap_succ hj' (by omega)
    have hg : (l.map encTag)[j]? = some (encTag l[j]) := tagE.get hj'
    have hn := chain_take tagOK Tag.key l ⟨#[]⟩ hj'
    have hf := ht _ (List.getElem_mem hj')
    have ho : tagOK (lastK Tag.key ⟨#[]⟩ (l.take j)) l[j] = (nameF l[j].key && (!leS l[j].key (lastK Tag.key ⟨#[]⟩ (l.take j)) && (!decide (l[j].val = ⟨#[]⟩) && decide (l[j].val.size ≤ 200)))) := rfl
    have hprev : j ≠ 0 → (l.map encTag)[j - 1]? = some (encTag l[j - 1]) ∧ lastK Tag.key ⟨#[]⟩ (l.take j) = l[j - 1].key := fun h => by
      refine ⟨tagE.get (by omega), ?_⟩
      have := lastK_take Tag.key l ⟨#[]⟩ (j := j - 1) (by omega)
      rwa [show j - 1 + 1 = j by omega] at this
    rw [hall, Bool.true_and, ho, pos_ne] at hn
    clear ho
    have hno : chain tagOK Tag.key ⟨#[]⟩ (l.take (j + 1)) = false → tagsV l = false := tagsV_no
    simp only [sZ, initT, optI, splice, reduceIte, reduceCtorEq, Nat.reduceEqDiff, Nat.reduceAdd, Nat.reduceSub, Nat.reduceMul, Nat.reduceLeDiff, Nat.reduceLT, Int.reduceLT, Int.reduceLE, Int.reduceToNat, Int.reduceEq, Int.cast_ofNat_Int, hg, encTag]
    refine callQS_quiet (spec_Namer _ hf.key) ?_
    cases h1 : nameF l[j].key
    · rw [hno (by rw [hn, h1]; rfl)]
      simp only [sZ, initT, optI, splice, reduceIte, reduceCtorEq, Nat.reduceEqDiff, Nat.reduceAdd, Nat.reduceSub, Nat.reduceMul, Nat.reduceLeDiff, Nat.reduceLT, Int.reduceLT, Int.reduceLE, Int.reduceToNat, Int.reduceEq, Int.cast_ofNat_Int, Bool.not_false]
      refine OutQ.eq (by repeat (first | exact SExt.refl _ | (refine SExt.old ?_ (by first | (simp only [*]; done) | (simp only [upd_none]; assumption) | (simp only [upd_none, *, not_false_eq_true, and_self]; done)) _))) rfl
    rw [h1, Bool.true_and] at hn
    have v1 : decide ((l[j].val.size : Int) < 1) = !decide (0 < l[j].val.size) := by rw [Bool.eq_iff_iff]; simp only [decide_eq_true_eq, Bool.not_eq_true', decide_eq_false_iff_not]; omega
    have v2 : decide ((200 : Int) < (l[j].val.size : Int)) = !decide (l[j].val.size ≤ 200) := by rw [← decide_not]; simp; omega
    cases h2 : decide (0 < l[j].val.size)
    · rw [hno (by rw [hn, h2]; simp)]
      simp only [sZ, initT, optI, splice, reduceIte, reduceCtorEq, Nat.reduceEqDiff, Nat.reduceAdd, Nat.reduceSub, Nat.reduceMul, Nat.reduceLeDiff, Nat.reduceLT, Int.reduceLT, Int.reduceLE, Int.reduceToNat, Int.reduceEq, Int.cast_ofNat_Int, Bool.not_true, Bool.not_false, hg, encTag, v1, h2]
      refine OutQ.eq (by repeat (first | exact SExt.refl _ | (refine SExt.old ?_ (by first | (simp only [*]; done) | (simp only [upd_none]; assumption) | (simp only [upd_none, *, not_false_eq_true, and_self]; done)) _))) rfl
    cases h3 : decide (l[j].val.size ≤ 200)
    · rw [hno (by rw [hn, h3]; simp)]
      simp only [sZ, initT, optI, splice, reduceIte, reduceCtorEq, Nat.reduceEqDiff, Nat.reduceAdd, Nat.reduceSub, Nat.reduceMul, Nat.reduceLeDiff, Nat.reduceLT, Int.reduceLT, Int.reduceLE, Int.reduceToNat, Int.reduceEq, Int.cast_ofNat_Int, Bool.not_true, Bool.not_false, hg, encTag, v1, h2, v2, h3]
      refine OutQ.eq (by repeat (first | exact SExt.refl _ | (refine SExt.old ?_ (by first | (simp only [*]; done) | (simp only [upd_none]; assumption) | (simp only [upd_none, *, not_false_eq_true, and_self]; done)) _))) rfl
    rw [h2, h3, Bool.and_true, Bool.and_true] at hn
    by_cases c0 : j = 0
    · subst c0
      have d0 : decide ((0 : Int) < ((0 : Nat) : Int)) = false := rfl
      have e0 : lastK Tag.key ⟨#[]⟩ (l.take 0) = ⟨#[]⟩ := rfl
      rw [e0, le_nil h1] at hn
      simp only [sZ, initT, optI, splice, reduceIte, reduceCtorEq, Nat.reduceEqDiff, Nat.reduceAdd, Nat.reduceSub, Nat.reduceMul, Nat.reduceLeDiff, Nat.reduceLT, Int.reduceLT, Int.reduceLE, Int.reduceToNat, Int.reduceEq, Int.cast_ofNat_Int, Bool.not_true, Bool.not_false, hg, encTag, v1, h2, v2, h3, d0, hw]
      exact next_L hj' () (SExt.refl _) rfl (by (try simp only [TabLe_cons, TabLe_nil, tab_cons, tab_nil, upd_apply, Nat.reduceEqDiff, reduceIte, and_true]); repeat' (first | exact trivial | exact A.le_refl _ | exact le_strip_no _ _ _ | exact A.le_no _ _ _ | exact A.le_empty _ _ _ | refine And.intro ?_ ?_)) hn
    · have d0 : decide ((0 : Int) < (j : Int)) = true := decide_eq_true (by omega)
      obtain ⟨g1, g2⟩ := hprev c0
      have hw1 : IntKind.i64.wrap ((j : Int) - 1) = ((j - 1 : Nat) : Int) := by rw [wrap64 (by omega) (by omega)]; omega
      have q1 : (0 : Int) ≤ ((j - 1 : Nat) : Int) := by omega
      have q2 : ((j - 1 : Nat) : Int) < (l.length : Int) := by omega
      rw [g2] at hn
      simp only [sZ, initT, optI, splice, reduceIte, reduceCtorEq, Nat.reduceEqDiff, Nat.reduceAdd, Nat.reduceSub, Nat.reduceMul, Nat.reduceLeDiff, Nat.reduceLT, Int.reduceLT, Int.reduceLE, Int.reduceToNat, Int.reduceEq, Int.cast_ofNat_Int, Bool.not_true, Bool.not_false, hg, encTag, v1, h2, v2, h3, d0, hw1, q1, q2, g1, Int.toNat_natCast, pvB3, lt_total]
      cases h4 : leS l[j].key l[j - 1].key
      · rw [h4] at hn
        simp only [sZ, initT, optI, splice, reduceIte, reduceCtorEq, Nat.reduceEqDiff, Nat.reduceAdd, Nat.reduceSub, Nat.reduceMul, Nat.reduceLeDiff, Nat.reduceLT, Int.reduceLT, Int.reduceLE, Int.reduceToNat, Int.reduceEq, Int.cast_ofNat_Int, hw]
        exact next_L hj' () (SExt.refl _) rfl (by (try simp only [TabLe_cons, TabLe_nil, tab_cons, tab_nil, upd_apply, Nat.reduceEqDiff, reduceIte, and_true]); repeat' (first | exact trivial | exact A.le_refl _ | exact le_strip_no _ _ _ | exact A.le_no _ _ _ | exact A.le_empty _ _ _ | refine And.intro ?_ ?_)) hn
      · rw [hno (by rw [hn, h4]; rfl)]
        simp only [sZ, initT, optI, splice, reduceIte, reduceCtorEq, Nat.reduceEqDiff, Nat.reduceAdd, Nat.reduceSub, Nat.reduceMul, Nat.reduceLeDiff, Nat.reduceLT, Int.reduceLT, Int.reduceLE, Int.reduceToNat, Int.reduceEq, Int.cast_ofNat_Int]
        refine OutQ.eq (by repeat (first | exact SExt.refl _ | (refine SExt.old ?_ (by first | (simp only [*]; done) | (simp only [upd_none]; assumption) | (simp only [upd_none, *, not_false_eq_true, and_self]; done)) _))) rfl
  · have hje : j = l.length := by have := of_decide_eq_false hge; omega
    subst hje
    rw [List.take_length] at hall
    have hn : tagsV l = true := by unfold tagsV; rw [hall, decide_eq_true (by omega : l.length ≤ 60)]; rfl
    rw [hn]
    simp only [sZ, initT, optI, splice, reduceIte, reduceCtorEq, Nat.reduceEqDiff, Nat.reduceAdd, Nat.reduceSub, Nat.reduceMul, Nat.reduceLeDiff, Nat.reduceLT, Int.reduceLT, Int.reduceLE, Int.reduceToNat, Int.reduceEq, Int.cast_ofNat_Int]
    refine OutQ.eq (by repeat (first | exact SExt.refl _ | (refine SExt.old ?_ (by first | (simp only [*]; done) | (simp only [upd_none]; assumption) | (simp only [upd_none, *, not_false_eq_true, and_self]; done)) _))) rfl
theorem spec_wordR (n : Int) {s : Nat → Option Blk} {k : Nat → Tk} : Spec prg 121 [.int .i64 n] s k (.str (wordF n)) s k := by
  refine spec_tr prg_mixed tr_pref11_Word (Nat.le_of_ble_eq_true rfl) rfl ?_
  unfold pc_pref11_Word rs_pref11_Word
  by_cases h0 : 1 ≤ n ∧ n < 6
  · obtain ⟨i, rfl⟩ : ∃ i : Nat, n = i := ⟨n.toNat, by omega⟩
    have hi : i < 6 := by omega
    have h1 : 1 ≤ i := by omega
    clear h0
    match i, hi, h1 with
    | 1, _, _ => repeat' (first | (first | (with_reducible refine newS_in ?_; intro _ hid_; simp only [upd_none] at hid_) | (with_reducible refine newR_in ?_; intro _ hid_ hih_; simp only [upd_none, upd_none', rr_eqs2, and_true] at hid_ hih_) | (with_reducible refine mkmS_in ?_; intro _ hid_; simp only [upd_none] at hid_)) | (with_reducible refine brC_in (fun h_ => ?_) (fun h_ => ?_)) | (with_reducible refine brG_in (fun h_ => ?_) (fun h_ => ?_)) | (with_reducible refine brN_in (fun h_ => ?_) (fun h_ => ?_)) | simp only [sZ, initT, optI, splice, reduceIte, reduceCtorEq, Nat.reduceEqDiff, Nat.reduceAdd, Nat.reduceSub, Nat.reduceMul, Nat.reduceLeDiff, Nat.reduceLT, Int.reduceLT, Int.reduceLE, Int.reduceToNat, Int.reduceEq, Int.cast_ofNat_Int, *, decide_false, decide_true]); all_goals refine OutQ.eq (by repeat (first | exact SExt.refl _ | (refine SExt.old ?_ (by first | (simp only [*]; done) | (simp only [upd_none]; assumption) | (simp only [upd_none, *, not_false_eq_true, and_self]; done)) _))) rfl
    | 2, _, _ => repeat' (first | (first | (with_reducible refine newS_in ?_; intro _ hid_; simp only [upd_none] at hid_) | (with_reducible refine newR_in ?_; intro _ hid_ hih_; simp only [upd_none, upd_none', rr_eqs2, and_true] at hid_ hih_) | (with_reducible refine mkmS_in ?_; intro _ hid_; simp only [upd_none] at hid_)) | (with_reducible refine brC_in (fun h_ => ?_) (fun h_ => ?_)) | (with_reducible refine brG_in (fun h_ => ?_) (fun h_ => ?_)) | (with_reducible refine brN_in (fun h_ => ?_) (fun h_ => ?_)) | simp only [sZ, initT, optI, splice, reduceIte, reduceCtorEq, Nat.reduceEqDiff, Nat.reduceAdd, Nat.reduceSub, Nat.reduceMul, Nat.reduceLeDiff, Nat.reduceLT, Int.reduceLT, Int.reduceLE, Int.reduceToNat, Int.reduceEq, Int.cast_ofNat_Int, *, decide_false, decide_true]); all_goals refine OutQ.eq (by repeat (first | exact SExt.refl _ | (refine SExt.old ?_ (by first | (simp only [*]; done) | (simp only [upd_none]; assumption) | (simp only [upd_none, *, not_false_eq_true, and_self]; done)) _))) rfl
    | 3, _, _ => repeat' (first | (first | (with_reducible refine newS_in ?_; intro _ hid_; simp only [upd_none] at hid_) | (with_reducible refine newR_in ?_; intro _ hid_ hih_; simp only [upd_none, upd_none', rr_eqs2, and_true] at hid_ hih_) | (with_reducible refine mkmS_in ?_; intro _ hid_; simp only [upd_none] at hid_)) | (with_reducible refine brC_in (fun h_ => ?_) (fun h_ => ?_)) | (with_reducible refine brG_in (fun h_ => ?_) (fun h_ => ?_)) | (with_reducible refine brN_in (fun h_ => ?_) (fun h_ => ?_)) | simp only [sZ, initT, optI, splice, reduceIte, reduceCtorEq, Nat.reduceEqDiff, Nat.reduceAdd, Nat.reduceSub, Nat.reduceMul, Nat.reduceLeDiff, Nat.reduceLT, Int.reduceLT, Int.reduceLE, Int.reduceToNat, Int.reduceEq, Int.cast_ofNat_Int, *, decide_false, decide_true]); all_goals refine OutQ.eq (by repeat (first | exact SExt.refl _ | (refine SExt.old ?_ (by first | (simp only [*]; done) | (simp only [upd_none]; assumption) | (simp only [upd_none, *, not_false_eq_true, and_self]; done)) _))) rfl
    | 4, _, _ => repeat' (first | (first | (with_reducible refine newS_in ?_; intro _ hid_; simp only [upd_none] at hid_) | (with_reducible refine newR_in ?_; intro _ hid_ hih_; simp only [upd_none, upd_none', rr_eqs2, and_true] at hid_ hih_) | (with_reducible refine mkmS_in ?_; intro _ hid_; simp only [upd_none] at hid_)) | (with_reducible refine brC_in (fun h_ => ?_) (fun h_ => ?_)) | (with_reducible refine brG_in (fun h_ => ?_) (fun h_ => ?_)) | (with_reducible refine brN_in (fun h_ => ?_) (fun h_ => ?_)) | simp only [sZ, initT, optI, splice, reduceIte, reduceCtorEq, Nat.reduceEqDiff, Nat.reduceAdd, Nat.reduceSub, Nat.reduceMul, Nat.reduceLeDiff, Nat.reduceLT, Int.reduceLT, Int.reduceLE, Int.reduceToNat, Int.reduceEq, Int.cast_ofNat_Int, *, decide_false, decide_true]); all_goals refine OutQ.eq (by repeat (first | exact SExt.refl _ | (refine SExt.old ?_ (by first | (simp only [*]; done) | (simp only [upd_none]; assumption) | (simp only [upd_none, *, not_false_eq_true, and_self]; done)) _))) rfl
    | 5, _, _ => repeat' (first | (first | (with_reducible refine newS_in ?_; intro _ hid_; simp only [upd_none] at hid_) | (with_reducible refine newR_in ?_; intro _ hid_ hih_; simp only [upd_none, upd_none', rr_eqs2, and_true] at hid_ hih_) | (with_reducible refine mkmS_in ?_; intro _ hid_; simp only [upd_none] at hid_)) | (with_reducible refine brC_in (fun h_ => ?_) (fun h_ => ?_)) | (with_reducible refine brG_in (fun h_ => ?_) (fun h_ => ?_)) | (with_reducible refine brN_in (fun h_ => ?_) (fun h_ => ?_)) | simp only [sZ, initT, optI, splice, reduceIte, reduceCtorEq, Nat.reduceEqDiff, Nat.reduceAdd, Nat.reduceSub, Nat.reduceMul, Nat.reduceLeDiff, Nat.reduceLT, Int.reduceLT, Int.reduceLE, Int.reduceToNat, Int.reduceEq, Int.cast_ofNat_Int, *, decide_false, decide_true]); all_goals refine OutQ.eq (by repeat (first | exact SExt.refl _ | (refine SExt.old ?_ (by first | (simp only [*]; done) | (simp only [upd_none]; assumption) | (simp only [upd_none, *, not_false_eq_true, and_self]; done)) _))) rfl
  · have hw : wordF n = ⟨#[]⟩ := by
      unfold wordF
      rw [if_neg (by omega), if_neg (by omega), if_neg (by omega), if_neg (by omega), if_neg (by omega)]
    have hc : decide (n < 1) = true ∨ (decide (n < 1) = false ∧ decide (5 < n) = true) := by simp; omega
    rw [hw]
    rcases hc with hc | ⟨hc, hd⟩
    · simp only [sZ, initT, optI, splice, reduceIte, reduceCtorEq, Nat.reduceEqDiff, Nat.reduceAdd, Nat.reduceSub, Nat.reduceMul, Nat.reduceLeDiff, Nat.reduceLT, Int.reduceLT, Int.reduceLE, Int.reduceToNat, Int.reduceEq, Int.cast_ofNat_Int, hc]
      refine OutQ.eq (by repeat (first | exact SExt.refl _ | (refine SExt.old ?_ (by first | (simp only [*]; done) | (simp only [upd_none]; assumption) | (simp only [upd_none, *, not_false_eq_true, and_self]; done)) _))) rfl
    · simp only [sZ, initT, optI, splice, reduceIte, reduceCtorEq, Nat.reduceEqDiff, Nat.reduceAdd, Nat.reduceSub, Nat.reduceMul, Nat.reduceLeDiff, Nat.reduceLT, Int.reduceLT, Int.reduceLE, Int.reduceToNat, Int.reduceEq, Int.cast_ofNat_Int, hc, hd]
      refine OutQ.eq (by repeat (first | exact SExt.refl _ | (refine SExt.old ?_ (by first | (simp only [*]; done) | (simp only [upd_none]; assumption) | (simp only [upd_none, *, not_false_eq_true, and_self]; done)) _))) rfl
theorem spec_gridR (x y : Int) {s : Nat → Option Blk} {k : Nat → Tk} : Spec prg 111 [.agg [.int .i64 x, .int .i64 y]] s k (.bool (gridF x y)) s k := by
  refine spec_tr prg_mixed tr_pref11_On (Nat.le_of_ble_eq_true rfl) rfl ?_
  unfold pc_pref11_On rs_pref11_On
  repeat' (first | (first | (with_reducible refine newS_in ?_; intro _ hid_; simp only [upd_none] at hid_) | (with_reducible refine newR_in ?_; intro _ hid_ hih_; simp only [upd_none, upd_none', rr_eqs2, and_true] at hid_ hih_) | (with_reducible refine mkmS_in ?_; intro _ hid_; simp only [upd_none] at hid_)) | (with_reducible refine brC_in (fun h_ => ?_) (fun h_ => ?_)) | (with_reducible refine brG_in (fun h_ => ?_) (fun h_ => ?_)) | (with_reducible refine brN_in (fun h_ => ?_) (fun h_ => ?_)) | simp only [sZ, initT, optI, splice, reduceIte, reduceCtorEq, Nat.reduceEqDiff, Nat.reduceAdd, Nat.reduceSub, Nat.reduceMul, Nat.reduceLeDiff, Nat.reduceLT, Int.reduceLT, Int.reduceLE, Int.reduceToNat, Int.reduceEq, Int.cast_ofNat_Int, *])
  all_goals refine OutQ.eq (by repeat (first | exact SExt.refl _ | (refine SExt.old ?_ (by first | (simp only [*]; done) | (simp only [upd_none]; assumption) | (simp only [upd_none, *, not_false_eq_true, and_self]; done)) _))) ?_
  all_goals simp only [gridF, *, Bool.true_and, Bool.false_and, Bool.and_true, Bool.and_false]
def countR (kind : Int) (n : Nat) : Bool := if kind = 1 then decide (n = 0) else if kind = 2 then decide (2 ≤ n) else if kind = 3 then decide (3 ≤ n) else if kind = 4 then decide (1 ≤ n) else decide (n = 3)
def refsR (o : Obj) : Bool := decide (o.refs.length ≤ 2000) && (refsV o.kind o.refs && countR o.kind o.refs.length)
theorem refsV_no {kind : Int} {l : List ByteArray} {j : Nat} (hj : j < l.length) (h : wrongF kind l j l[j] = true) : refsV kind l = false := by
  have hgd : l.getD j ⟨#[]⟩ = l[j] := by rw [List.getD_eq_getElem?_getD, List.getElem?_eq_getElem hj]; rfl
  unfold refsV
  rw [range_any_take _ hj (by rw [hgd]; exact h)]
  rfl
theorem dec_comm (a b : ByteArray) : decide (a = b) = decide (b = a) := by
  rw [Bool.eq_iff_iff, decide_eq_true_eq, decide_eq_true_eq]
  exact ⟨fun h => h.symm, fun h => h.symm⟩
theorem spec_refsr (o : Obj) (hf : ObjFit o) {s : Nat → Option Blk} {k : Nat → Tk} : Spec prg 123 [.agg (encObj o)] s k (.bool (refsR o)) s k := by
  refine spec_tr prg_mixed tr_pref11_refs (Nat.le_of_ble_eq_true rfl) rfl ?_
  unfold pc_pref11_refs rs_pref11_refs
  obtain ⟨id, kind, x, y, refs, tags⟩ := o
  obtain ⟨hf1, hf2, hf3, hf4, hf5⟩ := hf
  dsimp only at hf1 hf2 hf3 hf4 hf5
  have hR : refsR ⟨id, kind, x, y, refs, tags⟩ = (decide (refs.length ≤ 2000) && (refsV kind refs && countR kind refs.length)) := rfl
  simp only [sZ, initT, optI, splice, reduceIte, reduceCtorEq, Nat.reduceEqDiff, Nat.reduceAdd, Nat.reduceSub, Nat.reduceMul, Nat.reduceLeDiff, Nat.reduceLT, Int.reduceLT, Int.reduceLE, Int.reduceToNat, Int.reduceEq, Int.cast_ofNat_Int, encObj]
  (with_reducible refine newS_in ?_); intro b1 f1; simp only [upd_none] at f1
  by_cases c1 : 2000 < refs.length
  · have d := decide_eq_true (by omega : (2000 : Int) < (refs.length : Int))
    rw [hR, decide_eq_false (by omega : ¬ refs.length ≤ 2000), Bool.false_and]
    simp only [sZ, initT, optI, splice, reduceIte, reduceCtorEq, Nat.reduceEqDiff, Nat.reduceAdd, Nat.reduceSub, Nat.reduceMul, Nat.reduceLeDiff, Nat.reduceLT, Int.reduceLT, Int.reduceLE, Int.reduceToNat, Int.reduceEq, Int.cast_ofNat_Int, f1, d]
    refine OutQ.eq (by repeat (first | exact SExt.refl _ | (refine SExt.old ?_ (by first | (simp only [*]; done) | (simp only [upd_none]; assumption) | (simp only [upd_none, *, not_false_eq_true, and_self]; done)) _))) rfl
  have d := decide_eq_false (by omega : ¬ (2000 : Int) < (refs.length : Int))
  rw [decide_eq_true (by omega : refs.length ≤ 2000), Bool.true_and] at hR
  simp only [sZ, initT, optI, splice, reduceIte, reduceCtorEq, Nat.reduceEqDiff, Nat.reduceAdd, Nat.reduceSub, Nat.reduceMul, Nat.reduceLeDiff, Nat.reduceLT, Int.reduceLT, Int.reduceLE, Int.reduceToNat, Int.reduceEq, Int.cast_ofNat_Int, f1, d]
  have hmk : ∀ (st : St) (K : A → St → Prop), (∀ id, st.s id = none → K (.map id) ⟨st.t, upd st.s id (some (.map (encM encB (seenM (refs.take 0) [])))), st.k⟩) → mkmS st K := fun st K h => mkmS_in h
  refine hmk _ _ ?_
  intro mi fm
  simp only [upd_none] at fm
  simp only [sZ, initT, optI, splice, reduceIte, reduceCtorEq, Nat.reduceEqDiff, Nat.reduceAdd, Nat.reduceSub, Nat.reduceMul, Nat.reduceLeDiff, Nat.reduceLT, Int.reduceLT, Int.reduceLE, Int.reduceToNat, Int.reduceEq, Int.cast_ofNat_Int, f1, fm]
  refine loop_L (α := Unit) refs.length (fun j _ => [(1, .ptr b1 0), (3, .int .i64 refs.length), (4, .map mi), (5, .int .i64 j)])
    (fun j _ => upd (upd s b1 (some (.cells [.str id, .int .i64 kind, .int .i64 x, .int .i64 y, .sl 1 (refs.map encStr) .no, .sl 2 (tags.map encTag) .no]))) mi (some (.map (encM encB (seenM (refs.take j) []))))) (fun _ _ => k)
    (fun j _ => ((List.range j).any fun i => wrongF kind refs i (refs.getD i ⟨#[]⟩)) = false) () (SExt.refl _) rfl (by (try simp only [TabLe_cons, TabLe_nil, tab_cons, tab_nil, upd_apply, Nat.reduceEqDiff, reduceIte, and_true]); repeat' (first | exact trivial | exact A.le_refl _ | exact le_strip_no _ _ _ | exact A.le_no _ _ _ | exact A.le_empty _ _ _ | refine And.intro ?_ ?_)) rfl ?_
  rintro j ⟨⟩ hj hall
  try dsimp only
  simp only [sZ, initT, optI, splice, reduceIte, reduceCtorEq, Nat.reduceEqDiff, Nat.reduceAdd, Nat.reduceSub, Nat.reduceMul, Nat.reduceLeDiff, Nat.reduceLT, Int.reduceLT, Int.reduceLE, Int.reduceToNat, Int.reduceEq, Int.cast_ofNat_Int, f1, fm]
  refine brC_in (fun hlt => ?_) (fun hge => ?_)
  · have hj' : j < refs.length := by have := of_decide_eq_true hlt; omega
    clear hlt
    have hw := wrap_succ hj' (by omega)
    have hg : (refs.map encStr)[j]? = some (encStr refs[j]) := strE.get hj'
    have hgd : refs.getD j ⟨#[]⟩ = refs[j] := by rw [List.getD_eq_getElem?_getD, List.getElem?_eq_getElem hj']; rfl
    have hse := seenM_take refs [] hj'
    have hsz := hf3 _ (List.getElem_mem hj')
    have hno : wrongF kind refs j refs[j] = true → refsR ⟨id, kind, x, y, refs, tags⟩ = false := fun h => by rw [hR, refsV_no hj' h, Bool.false_and]
    have hnext : wrongF kind refs j refs[j] = false → ((List.range (j + 1)).any fun i => wrongF kind refs i (refs.getD i ⟨#[]⟩)) = false := fun h => by
      rw [range_any_succ, hall, hgd, h]
      rfl
    have hwr : wrongF kind refs j refs[j] = (((decide (kind = 2) && decide (refs[j] = lastK idK ⟨#[]⟩ (refs.take j))) || (decide (kind = 3) && memB refs[j] (refs.take j))) || !nameF refs[j]) := rfl
    have hlk : lookM refs[j] (seenM (refs.take j) []) = if memB refs[j] (refs.take j) then some true else none := look_seen refs[j] (refs.take j) []
    have hlb := fun st K => look_B _ _ _ hlk st K
    have hprev : j ≠ 0 → (refs.map encStr)[j - 1]? = some (encStr refs[j - 1]) ∧ lastK idK ⟨#[]⟩ (refs.take j) = refs[j - 1] := fun h => by
      refine ⟨strE.get (by omega), ?_⟩
      have := lastK_take idK refs ⟨#[]⟩ (j := j - 1) (by omega)
      rwa [show j - 1 + 1 = j by omega] at this
    simp only [sZ, initT, optI, splice, reduceIte, reduceCtorEq, Nat.reduceEqDiff, Nat.reduceAdd, Nat.reduceSub, Nat.reduceMul, Nat.reduceLeDiff, Nat.reduceLT, Int.reduceLT, Int.reduceLE, Int.reduceToNat, Int.reduceEq, Int.cast_ofNat_Int, f1, fm, hg, get_str]
    refine callQS_quiet (spec_Namer _ hsz) ?_
    cases hn : nameF refs[j]
    · rw [hno (by rw [hwr, hn]; simp)]
      simp only [sZ, initT, optI, splice, reduceIte, reduceCtorEq, Nat.reduceEqDiff, Nat.reduceAdd, Nat.reduceSub, Nat.reduceMul, Nat.reduceLeDiff, Nat.reduceLT, Int.reduceLT, Int.reduceLE, Int.reduceToNat, Int.reduceEq, Int.cast_ofNat_Int, f1, fm, Bool.not_false]
      refine OutQ.eq (by repeat (first | exact SExt.refl _ | (refine SExt.old ?_ (by first | (simp only [*]; done) | (simp only [upd_none]; assumption) | (simp only [upd_none, *, not_false_eq_true, and_self]; done)) _))) rfl
    rw [hn, Bool.not_true, Bool.or_false] at hwr
    have hne : refs[j] ≠ ⟨#[]⟩ := by
      unfold nameF at hn
      simp only [Bool.and_eq_true, Bool.not_eq_true', decide_eq_false_iff_not] at hn
      exact hn.2.1
    have fin : wrongF kind refs j refs[j] = false → ∀ (t : Nat → A) (Q : PX → St → Prop), True := fun _ _ _ => trivial
    clear fin
    by_cases c2 : kind = 2
    · have d2 := decide_eq_true c2
      have d3 : decide (kind = 3) = false := decide_eq_false (by omega)
      rw [d2, d3, Bool.true_and, Bool.false_and, Bool.or_false] at hwr
      by_cases c0 : j = 0
      · have e0 : decide ((0 : Int) < (j : Int)) = false := decide_eq_false (by omega)
        have hw0 : wrongF kind refs j refs[j] = false := by
          rw [hwr]
          have : lastK idK ⟨#[]⟩ (refs.take j) = ⟨#[]⟩ := by rw [c0]; rfl
          rw [this, decide_eq_false hne]
        simp only [sZ, initT, optI, splice, reduceIte, reduceCtorEq, Nat.reduceEqDiff, Nat.reduceAdd, Nat.reduceSub, Nat.reduceMul, Nat.reduceLeDiff, Nat.reduceLT, Int.reduceLT, Int.reduceLE, Int.reduceToNat, Int.reduceEq, Int.cast_ofNat_Int, f1, fm, hg, get_str, Bool.not_true, d2, d3, e0, mset_B, hw]
        refine next_L hj' () ?_ rfl (by (try simp only [TabLe_cons, TabLe_nil, tab_cons, tab_nil, upd_apply, Nat.reduceEqDiff, reduceIte, and_true]); repeat' (first | exact trivial | exact A.le_refl _ | exact le_strip_no _ _ _ | exact A.le_no _ _ _ | exact A.le_empty _ _ _ | refine And.intro ?_ ?_)) (hnext hw0)
        rw [hse]
        exact SExt.refl _
      · have e0 : decide ((0 : Int) < (j : Int)) = true := decide_eq_true (by omega)
        obtain ⟨g1, g2⟩ := hprev c0
        have hw1 : IntKind.i64.wrap ((j : Int) - 1) = ((j - 1 : Nat) : Int) := by rw [wrap64 (by omega) (by omega)]; omega
        have q1 : (0 : Int) ≤ ((j - 1 : Nat) : Int) := by omega
        have q2 : ((j - 1 : Nat) : Int) < (refs.length : Int) := by omega
        rw [g2, dec_comm] at hwr
        simp only [sZ, initT, optI, splice, reduceIte, reduceCtorEq, Nat.reduceEqDiff, Nat.reduceAdd, Nat.reduceSub, Nat.reduceMul, Nat.reduceLeDiff, Nat.reduceLT, Int.reduceLT, Int.reduceLE, Int.reduceToNat, Int.reduceEq, Int.cast_ofNat_Int, f1, fm, hg, get_str, Bool.not_true, d2, d3, e0, hw1, q1, q2, g1, Int.toNat_natCast]
        cases hpe : decide (refs[j - 1] = refs[j])
        · rw [hpe] at hwr
          simp only [sZ, initT, optI, splice, reduceIte, reduceCtorEq, Nat.reduceEqDiff, Nat.reduceAdd, Nat.reduceSub, Nat.reduceMul, Nat.reduceLeDiff, Nat.reduceLT, Int.reduceLT, Int.reduceLE, Int.reduceToNat, Int.reduceEq, Int.cast_ofNat_Int, f1, fm, hg, get_str, d3, mset_B, hw]
          refine next_L hj' () ?_ rfl (by (try simp only [TabLe_cons, TabLe_nil, tab_cons, tab_nil, upd_apply, Nat.reduceEqDiff, reduceIte, and_true]); repeat' (first | exact trivial | exact A.le_refl _ | exact le_strip_no _ _ _ | exact A.le_no _ _ _ | exact A.le_empty _ _ _ | refine And.intro ?_ ?_)) (hnext hwr)
          rw [hse]
          exact SExt.refl _
        · rw [hno (by rw [hwr, hpe])]
          simp only [sZ, initT, optI, splice, reduceIte, reduceCtorEq, Nat.reduceEqDiff, Nat.reduceAdd, Nat.reduceSub, Nat.reduceMul, Nat.reduceLeDiff, Nat.reduceLT, Int.reduceLT, Int.reduceLE, Int.reduceToNat, Int.reduceEq, Int.cast_ofNat_Int, f1, fm]
          refine OutQ.eq (by repeat (first | exact SExt.refl _ | (refine SExt.old ?_ (by first | (simp only [*]; done) | (simp only [upd_none]; assumption) | (simp only [upd_none, *, not_false_eq_true, and_self]; done)) _))) rfl
    · have d2 := decide_eq_false c2
      by_cases c3 : kind = 3
      · have d3 := decide_eq_true c3
        rw [d2, d3, Bool.false_and, Bool.true_and, Bool.false_or] at hwr
        simp only [sZ, initT, optI, splice, reduceIte, reduceCtorEq, Nat.reduceEqDiff, Nat.reduceAdd, Nat.reduceSub, Nat.reduceMul, Nat.reduceLeDiff, Nat.reduceLT, Int.reduceLT, Int.reduceLE, Int.reduceToNat, Int.reduceEq, Int.cast_ofNat_Int, f1, fm, hg, get_str, Bool.not_true, d2, d3, hlb]
        cases hmb : memB refs[j] (refs.take j)
        · rw [hmb] at hwr
          simp only [sZ, initT, optI, splice, reduceIte, reduceCtorEq, Nat.reduceEqDiff, Nat.reduceAdd, Nat.reduceSub, Nat.reduceMul, Nat.reduceLeDiff, Nat.reduceLT, Int.reduceLT, Int.reduceLE, Int.reduceToNat, Int.reduceEq, Int.cast_ofNat_Int, f1, fm, hg, get_str, mset_B, hw]
          refine next_L hj' () ?_ rfl (by (try simp only [TabLe_cons, TabLe_nil, tab_cons, tab_nil, upd_apply, Nat.reduceEqDiff, reduceIte, and_true]); repeat' (first | exact trivial | exact A.le_refl _ | exact le_strip_no _ _ _ | exact A.le_no _ _ _ | exact A.le_empty _ _ _ | refine And.intro ?_ ?_)) (hnext hwr)
          rw [hse]
          exact SExt.refl _
        · rw [hno (by rw [hwr, hmb])]
          simp only [sZ, initT, optI, splice, reduceIte, reduceCtorEq, Nat.reduceEqDiff, Nat.reduceAdd, Nat.reduceSub, Nat.reduceMul, Nat.reduceLeDiff, Nat.reduceLT, Int.reduceLT, Int.reduceLE, Int.reduceToNat, Int.reduceEq, Int.cast_ofNat_Int, f1, fm]
          refine OutQ.eq (by repeat (first | exact SExt.refl _ | (refine SExt.old ?_ (by first | (simp only [*]; done) | (simp only [upd_none]; assumption) | (simp only [upd_none, *, not_false_eq_true, and_self]; done)) _))) rfl
      · have d3 := decide_eq_false c3
        rw [d2, d3, Bool.false_and, Bool.false_and] at hwr
        simp only [sZ, initT, optI, splice, reduceIte, reduceCtorEq, Nat.reduceEqDiff, Nat.reduceAdd, Nat.reduceSub, Nat.reduceMul, Nat.reduceLeDiff, Nat.reduceLT, Int.reduceLT, Int.reduceLE, Int.reduceToNat, Int.reduceEq, Int.cast_ofNat_Int, f1, fm, hg, get_str, Bool.not_true, d2, d3, mset_B, hw]
        refine next_L hj' () ?_ rfl (by (try simp only [TabLe_cons, TabLe_nil, tab_cons, tab_nil, upd_apply, Nat.reduceEqDiff, reduceIte, and_true]); repeat' (first | exact trivial | exact A.le_refl _ | exact le_strip_no _ _ _ | exact A.le_no _ _ _ | exact A.le_empty _ _ _ | refine And.intro ?_ ?_)) (hnext hwr)
        rw [hse]
        exact SExt.refl _
  · have hje : j = refs.length := by have := of_decide_eq_false hge; omega
    subst hje
    have hv : refsV kind refs = true := by unfold refsV; rw [hall]; rfl
    rw [hR, hv, Bool.true_and]
    have n0 : decide ((refs.length : Int) = 0) = decide (refs.length = 0) := by simp
    have n3 : decide ((refs.length : Int) = 3) = decide (refs.length = 3) := by simp; omega
    have m1 : decide ((1 : Int) ≤ (refs.length : Int)) = decide (1 ≤ refs.length) := by rw [Bool.eq_iff_iff, decide_eq_true_eq, decide_eq_true_eq]; omega
    have m2 : decide ((2 : Int) ≤ (refs.length : Int)) = decide (2 ≤ refs.length) := by rw [Bool.eq_iff_iff, decide_eq_true_eq, decide_eq_true_eq]; omega
    have m3 : decide ((3 : Int) ≤ (refs.length : Int)) = decide (3 ≤ refs.length) := by rw [Bool.eq_iff_iff, decide_eq_true_eq, decide_eq_true_eq]; omega
    unfold countR
    by_cases k1 : kind = 1
    · rw [if_pos k1]
      have d1 := decide_eq_true k1
      simp only [sZ, initT, optI, splice, reduceIte, reduceCtorEq, Nat.reduceEqDiff, Nat.reduceAdd, Nat.reduceSub, Nat.reduceMul, Nat.reduceLeDiff, Nat.reduceLT, Int.reduceLT, Int.reduceLE, Int.reduceToNat, Int.reduceEq, Int.cast_ofNat_Int, f1, fm, d1, n0]
      refine OutQ.eq (by repeat (first | exact SExt.refl _ | (refine SExt.old ?_ (by first | (simp only [*]; done) | (simp only [upd_none]; assumption) | (simp only [upd_none, *, not_false_eq_true, and_self]; done)) _))) rfl
    rw [if_neg k1]
    have d1 := decide_eq_false k1
    by_cases k2 : kind = 2
    · rw [if_pos k2]
      have d2 := decide_eq_true k2
      simp only [sZ, initT, optI, splice, reduceIte, reduceCtorEq, Nat.reduceEqDiff, Nat.reduceAdd, Nat.reduceSub, Nat.reduceMul, Nat.reduceLeDiff, Nat.reduceLT, Int.reduceLT, Int.reduceLE, Int.reduceToNat, Int.reduceEq, Int.cast_ofNat_Int, f1, fm, d1, d2, m2]
      refine OutQ.eq (by repeat (first | exact SExt.refl _ | (refine SExt.old ?_ (by first | (simp only [*]; done) | (simp only [upd_none]; assumption) | (simp only [upd_none, *, not_false_eq_true, and_self]; done)) _))) rfl
    rw [if_neg k2]
    have d2 := decide_eq_false k2
    by_cases k3 : kind = 3
    · rw [if_pos k3]
      have d3 := decide_eq_true k3
      simp only [sZ, initT, optI, splice, reduceIte, reduceCtorEq, Nat.reduceEqDiff, Nat.reduceAdd, Nat.reduceSub, Nat.reduceMul, Nat.reduceLeDiff, Nat.reduceLT, Int.reduceLT, Int.reduceLE, Int.reduceToNat, Int.reduceEq, Int.cast_ofNat_Int, f1, fm, d1, d2, d3, m3]
      refine OutQ.eq (by repeat (first | exact SExt.refl _ | (refine SExt.old ?_ (by first | (simp only [*]; done) | (simp only [upd_none]; assumption) | (simp only [upd_none, *, not_false_eq_true, and_self]; done)) _))) rfl
    rw [if_neg k3]
    have d3 := decide_eq_false k3
    by_cases k4 : kind = 4
    · rw [if_pos k4]
      have d4 := decide_eq_true k4
      simp only [sZ, initT, optI, splice, reduceIte, reduceCtorEq, Nat.reduceEqDiff, Nat.reduceAdd, Nat.reduceSub, Nat.reduceMul, Nat.reduceLeDiff, Nat.reduceLT, Int.reduceLT, Int.reduceLE, Int.reduceToNat, Int.reduceEq, Int.cast_ofNat_Int, f1, fm, d1, d2, d3, d4, m1]
      refine OutQ.eq (by repeat (first | exact SExt.refl _ | (refine SExt.old ?_ (by first | (simp only [*]; done) | (simp only [upd_none]; assumption) | (simp only [upd_none, *, not_false_eq_true, and_self]; done)) _))) rfl
    rw [if_neg k4]
    have d4 := decide_eq_false k4
    simp only [sZ, initT, optI, splice, reduceIte, reduceCtorEq, Nat.reduceEqDiff, Nat.reduceAdd, Nat.reduceSub, Nat.reduceMul, Nat.reduceLeDiff, Nat.reduceLT, Int.reduceLT, Int.reduceLE, Int.reduceToNat, Int.reduceEq, Int.cast_ofNat_Int, f1, fm, d1, d2, d3, d4, n3]
    refine OutQ.eq (by repeat (first | exact SExt.refl _ | (refine SExt.old ?_ (by first | (simp only [*]; done) | (simp only [upd_none]; assumption) | (simp only [upd_none, *, not_false_eq_true, and_self]; done)) _))) rfl
def atR (o : Obj) : Bool := if o.kind = 1 then gridF o.x o.y else zeroP o.x o.y
def objR (o : Obj) : Bool := nameF o.id && (kindOK o.kind && (atR o && (tagsV o.tags && refsR o)))
theorem objR_eq (o : Obj) : objR o = objV o := by
  obtain ⟨id, kind, x, y, refs, tags⟩ := o
  unfold objR objV atR refsR tailV
  dsimp only
  cases hk : kindOK kind
  · simp
  · have hk' : kind = 1 ∨ kind = 2 ∨ kind = 3 ∨ kind = 4 ∨ kind = 5 := by
      unfold kindOK at hk
      simp only [Bool.and_eq_true, decide_eq_true_eq] at hk
      omega
    rw [Bool.eq_iff_iff]
    rcases hk' with rfl | rfl | rfl | rfl | rfl
    all_goals
      simp only [leastF, countR, Int.reduceEq, reduceIte, decide_true, decide_false, cond_true, cond_false, Bool.and_eq_true, Bool.true_and, decide_eq_true_eq, Bool.not_eq_true', decide_eq_false_iff_not]
      constructor
      · rintro ⟨h1, h2, h3, h4, h5, h6⟩
        refine ⟨h1, h3, by omega, h4, h5, ?_⟩
        first | exact ⟨h6, h2⟩ | exact h2
      · rintro ⟨h1, h3, h0, h4, h5, h6⟩
        first
          | exact ⟨h1, h6.2, h3, h4, h5, h6.1⟩
          | exact ⟨h1, h6, h3, h4, h5, by omega⟩
theorem spec_objr (o : Obj) (hf : ObjFit o) {s : Nat → Option Blk} {k : Nat → Tk} : Spec prg 92 [.agg (encObj o)] s k (.bool (objV o)) s k := by
  refine spec_tr prg_mixed tr_pref11_Valid (Nat.le_of_ble_eq_true rfl) rfl ?_
  unfold pc_pref11_Valid rs_pref11_Valid
  rw [← objR_eq]
  have hrf := fun s k => @spec_refsr o hf s k
  obtain ⟨id, kind, x, y, refs, tags⟩ := o
  obtain ⟨hf1, hf2, hf3, hf4, hf5⟩ := hf
  dsimp only at hf1 hf2 hf3 hf4 hf5
  have hO : objR ⟨id, kind, x, y, refs, tags⟩ = (nameF id && (kindOK kind && ((if kind = 1 then gridF x y else zeroP x y) && (tagsV tags && refsR ⟨id, kind, x, y, refs, tags⟩)))) := rfl
  simp only [encObj] at hrf
  simp only [sZ, initT, optI, splice, reduceIte, reduceCtorEq, Nat.reduceEqDiff, Nat.reduceAdd, Nat.reduceSub, Nat.reduceMul, Nat.reduceLeDiff, Nat.reduceLT, Int.reduceLT, Int.reduceLE, Int.reduceToNat, Int.reduceEq, Int.cast_ofNat_Int, encObj]
  (with_reducible refine newS_in ?_); intro b1 f1; simp only [upd_none] at f1
  simp only [sZ, initT, optI, splice, reduceIte, reduceCtorEq, Nat.reduceEqDiff, Nat.reduceAdd, Nat.reduceSub, Nat.reduceMul, Nat.reduceLeDiff, Nat.reduceLT, Int.reduceLT, Int.reduceLE, Int.reduceToNat, Int.reduceEq, Int.cast_ofNat_Int, f1]
  refine callS_quiet (spec_gridR x y) ?_
  have hwd : (!decide (wordF kind = ⟨#[]⟩)) = kindOK kind := by rw [word_nil, Bool.not_not]
  by_cases c1 : kind = 1
  · have d1 : (!decide (kind = 1)) = false := by rw [decide_eq_true c1]; rfl
    rw [if_pos c1] at hO
    generalize refsR ⟨id, kind, x, y, refs, tags⟩ = rr at *
    simp only [sZ, initT, optI, splice, reduceIte, reduceCtorEq, Nat.reduceEqDiff, Nat.reduceAdd, Nat.reduceSub, Nat.reduceMul, Nat.reduceLeDiff, Nat.reduceLT, Int.reduceLT, Int.reduceLE, Int.reduceToNat, Int.reduceEq, Int.cast_ofNat_Int, f1, d1]
    repeat' (first | (refine callS_quiet (spec_Namer _ hf1) ?_) | (refine callS_quiet (spec_wordR kind) ?_) | (refine callS_quiet (spec_tagsr _ hf4 hf5) ?_) | (refine callS_quiet (hrf _ _) ?_) | (first | (with_reducible refine newS_in ?_; intro _ hid_; simp only [upd_none] at hid_) | (with_reducible refine newR_in ?_; intro _ hid_ hih_; simp only [upd_none, upd_none', rr_eqs2, and_true] at hid_ hih_) | (with_reducible refine mkmS_in ?_; intro _ hid_; simp only [upd_none] at hid_)) | (with_reducible refine brC_in (fun h_ => ?_) (fun h_ => ?_)) | (with_reducible refine brG_in (fun h_ => ?_) (fun h_ => ?_)) | (with_reducible refine brN_in (fun h_ => ?_) (fun h_ => ?_)) | simp only [sZ, initT, optI, splice, reduceIte, reduceCtorEq, Nat.reduceEqDiff, Nat.reduceAdd, Nat.reduceSub, Nat.reduceMul, Nat.reduceLeDiff, Nat.reduceLT, Int.reduceLT, Int.reduceLE, Int.reduceToNat, Int.reduceEq, Int.cast_ofNat_Int, *, f1, hwd, -c1, -hO, -hf1, -hf2, -hf3, -hf4, -hf5, -hrf])
    all_goals refine OutQ.eq (by repeat (first | exact SExt.refl _ | (refine SExt.old ?_ (by first | (simp only [*]; done) | (simp only [upd_none]; assumption) | (simp only [upd_none, *, not_false_eq_true, and_self]; done)) _))) ?_
    all_goals rw [hO]
    all_goals clear hO hrf hf1 hf2 hf3 hf4 hf5 hwd d1 c1
    all_goals simp_all only [Bool.not_eq_true', Bool.not_eq_false', Bool.not_not, Bool.not_true, Bool.not_false, Bool.and_true, Bool.true_and, Bool.and_false, Bool.false_and, Bool.or_true, Bool.true_or, Bool.or_false, Bool.false_or]
  · have d1 : (!decide (kind = 1)) = true := by rw [decide_eq_false c1]; rfl
    have hzz : zeroP x y = (decide (x = 0) && decide (y = 0)) := rfl
    rw [if_neg c1, hzz] at hO
    generalize refsR ⟨id, kind, x, y, refs, tags⟩ = rr at *
    simp only [sZ, initT, optI, splice, reduceIte, reduceCtorEq, Nat.reduceEqDiff, Nat.reduceAdd, Nat.reduceSub, Nat.reduceMul, Nat.reduceLeDiff, Nat.reduceLT, Int.reduceLT, Int.reduceLE, Int.reduceToNat, Int.reduceEq, Int.cast_ofNat_Int, f1, d1, fit_pt, eq_pt]
    repeat' (first | (refine callS_quiet (spec_Namer _ hf1) ?_) | (refine callS_quiet (spec_wordR kind) ?_) | (refine callS_quiet (spec_tagsr _ hf4 hf5) ?_) | (refine callS_quiet (hrf _ _) ?_) | (first | (with_reducible refine newS_in ?_; intro _ hid_; simp only [upd_none] at hid_) | (with_reducible refine newR_in ?_; intro _ hid_ hih_; simp only [upd_none, upd_none', rr_eqs2, and_true] at hid_ hih_) | (with_reducible refine mkmS_in ?_; intro _ hid_; simp only [upd_none] at hid_)) | (with_reducible refine brC_in (fun h_ => ?_) (fun h_ => ?_)) | (with_reducible refine brG_in (fun h_ => ?_) (fun h_ => ?_)) | (with_reducible refine brN_in (fun h_ => ?_) (fun h_ => ?_)) | simp only [sZ, initT, optI, splice, reduceIte, reduceCtorEq, Nat.reduceEqDiff, Nat.reduceAdd, Nat.reduceSub, Nat.reduceMul, Nat.reduceLeDiff, Nat.reduceLT, Int.reduceLT, Int.reduceLE, Int.reduceToNat, Int.reduceEq, Int.cast_ofNat_Int, *, f1, hwd, fit_pt, eq_pt, -c1, -hO, -hf1, -hf2, -hf3, -hf4, -hf5, -hrf])
    all_goals refine OutQ.eq (by repeat (first | exact SExt.refl _ | (refine SExt.old ?_ (by first | (simp only [*]; done) | (simp only [upd_none]; assumption) | (simp only [upd_none, *, not_false_eq_true, and_self]; done)) _))) ?_
    all_goals rw [hO]
    all_goals clear hO hrf hf1 hf2 hf3 hf4 hf5 hwd d1 c1
    all_goals simp_all only [Bool.not_eq_true', Bool.not_eq_false', Bool.not_not, Bool.not_true, Bool.not_false, Bool.and_true, Bool.true_and, Bool.and_false, Bool.false_and, Bool.or_true, Bool.true_or, Bool.or_false, Bool.false_or]
theorem spec_mapr (m : List Obj) (hm : MapFit m) {s : Nat → Option Blk} {k : Nat → Tk} : Spec prg 50 [.agg (encMap m)] s k (.bool (mapV m)) s k := by
  refine spec_tr prg_mixed tr_pref12_Valid (Nat.le_of_ble_eq_true rfl) rfl ?_
  unfold pc_pref12_Valid rs_pref12_Valid
  obtain ⟨hl, hof⟩ := hm
  simp only [sZ, initT, optI, splice, reduceIte, reduceCtorEq, Nat.reduceEqDiff, Nat.reduceAdd, Nat.reduceSub, Nat.reduceMul, Nat.reduceLeDiff, Nat.reduceLT, Int.reduceLT, Int.reduceLE, Int.reduceToNat, Int.reduceEq, Int.cast_ofNat_Int, encMap]
  (with_reducible refine newS_in ?_); intro b1 f1; simp only [upd_none] at f1
  by_cases c6 : 1000000 < m.length
  · have d := decide_eq_true (by omega : (1000000 : Int) < (m.length : Int))
    have : mapV m = false := by unfold mapV; rw [decide_eq_false (by omega : ¬ m.length ≤ 1000000), Bool.and_false]
    rw [this]
    simp only [sZ, initT, optI, splice, reduceIte, reduceCtorEq, Nat.reduceEqDiff, Nat.reduceAdd, Nat.reduceSub, Nat.reduceMul, Nat.reduceLeDiff, Nat.reduceLT, Int.reduceLT, Int.reduceLE, Int.reduceToNat, Int.reduceEq, Int.cast_ofNat_Int, f1, d]
    refine OutQ.eq (by repeat (first | exact SExt.refl _ | (refine SExt.old ?_ (by first | (simp only [*]; done) | (simp only [upd_none]; assumption) | (simp only [upd_none, *, not_false_eq_true, and_self]; done)) _))) rfl
  have d := decide_eq_false (by omega : ¬ (1000000 : Int) < (m.length : Int))
  simp only [sZ, initT, optI, splice, reduceIte, reduceCtorEq, Nat.reduceEqDiff, Nat.reduceAdd, Nat.reduceSub, Nat.reduceMul, Nat.reduceLeDiff, Nat.reduceLT, Int.reduceLT, Int.reduceLE, Int.reduceToNat, Int.reduceEq, Int.cast_ofNat_Int, f1, d]
  refine loop_L (α := Unit) m.length (fun j _ => [(1, .ptr b1 0), (3, .int .i64 j)]) (fun j _ => upd s b1 (some (.cells [.sl 6 (m.map encObj) .no]))) (fun _ _ => k) (fun j _ => chain inMap Obj.id ⟨#[]⟩ (m.take j) = true) () (SExt.refl _) rfl (by (try simp only [TabLe_cons, TabLe_nil, tab_cons, tab_nil, upd_apply, Nat.reduceEqDiff, reduceIte, and_true]); repeat' (first | exact trivial | exact A.le_refl _ | exact le_strip_no _ _ _ | exact A.le_no _ _ _ | exact A.le_empty _ _ _ | refine And.intro ?_ ?_)) rfl ?_
  rintro j ⟨⟩ hj hall
  try dsimp only
  simp only [sZ, initT, optI, splice, reduceIte, reduceCtorEq, Nat.reduceEqDiff, Nat.reduceAdd, Nat.reduceSub, Nat.reduceMul, Nat.reduceLeDiff, Nat.reduceLT, Int.reduceLT, Int.reduceLE, Int.reduceToNat, Int.reduceEq, Int.cast_ofNat_Int, f1]
  refine brC_in (fun hlt => ?_) (fun hge => ?_)
  · have hj' : j < m.length := by have := of_decide_eq_true hlt; omega
    clear hlt
    have hw := wrap_succ hj' (by omega)
    have hg : (m.map encObj)[j]? = some (encObj m[j]) := objE.get hj'
    have hn := chain_take inMap Obj.id m ⟨#[]⟩ hj'
    have hf := hof _ (List.getElem_mem hj')
    have ho : inMap (lastK Obj.id ⟨#[]⟩ (m.take j)) m[j] = (objV m[j] && !leS m[j].id (lastK Obj.id ⟨#[]⟩ (m.take j))) := rfl
    have hprev : j ≠ 0 → (m.map encObj)[j - 1]? = some (encObj m[j - 1]) ∧ lastK Obj.id ⟨#[]⟩ (m.take j) = m[j - 1].id := fun h => by
      refine ⟨objE.get (by omega), ?_⟩
      have := lastK_take Obj.id m ⟨#[]⟩ (j := j - 1) (by omega)
      rwa [show j - 1 + 1 = j by omega] at this
    rw [hall, Bool.true_and, ho] at hn
    clear ho
    have hno : chain inMap Obj.id ⟨#[]⟩ (m.take (j + 1)) = false → mapV m = false := mapV_no
    simp only [sZ, initT, optI, splice, reduceIte, reduceCtorEq, Nat.reduceEqDiff, Nat.reduceAdd, Nat.reduceSub, Nat.reduceMul, Nat.reduceLeDiff, Nat.reduceLT, Int.reduceLT, Int.reduceLE, Int.reduceToNat, Int.reduceEq, Int.cast_ofNat_Int, f1, hg, len_encObj, wh_encObj, st_encObj]
    refine callQS_quiet (spec_objr _ hf) ?_
    cases h1 : objV m[j]
    · rw [hno (by rw [hn, h1]; rfl)]
      simp only [sZ, initT, optI, splice, reduceIte, reduceCtorEq, Nat.reduceEqDiff, Nat.reduceAdd, Nat.reduceSub, Nat.reduceMul, Nat.reduceLeDiff, Nat.reduceLT, Int.reduceLT, Int.reduceLE, Int.reduceToNat, Int.reduceEq, Int.cast_ofNat_Int, f1, Bool.not_false]
      refine OutQ.eq (by repeat (first | exact SExt.refl _ | (refine SExt.old ?_ (by first | (simp only [*]; done) | (simp only [upd_none]; assumption) | (simp only [upd_none, *, not_false_eq_true, and_self]; done)) _))) rfl
    have hnm : nameF m[j].id = true := by
      unfold objV at h1
      simp only [Bool.and_eq_true] at h1
      exact h1.2.1
    rw [h1, Bool.true_and] at hn
    by_cases c0 : j = 0
    · have d0 : decide ((0 : Int) < (j : Int)) = false := decide_eq_false (by omega)
      have e0 : lastK Obj.id ⟨#[]⟩ (m.take j) = ⟨#[]⟩ := by rw [c0]; rfl
      rw [e0, le_nil hnm] at hn
      simp only [sZ, initT, optI, splice, reduceIte, reduceCtorEq, Nat.reduceEqDiff, Nat.reduceAdd, Nat.reduceSub, Nat.reduceMul, Nat.reduceLeDiff, Nat.reduceLT, Int.reduceLT, Int.reduceLE, Int.reduceToNat, Int.reduceEq, Int.cast_ofNat_Int, f1, Bool.not_true, d0, hw]
      exact next_L hj' () (SExt.refl _) rfl (by (try simp only [TabLe_cons, TabLe_nil, tab_cons, tab_nil, upd_apply, Nat.reduceEqDiff, reduceIte, and_true]); repeat' (first | exact trivial | exact A.le_refl _ | exact le_strip_no _ _ _ | exact A.le_no _ _ _ | exact A.le_empty _ _ _ | refine And.intro ?_ ?_)) hn
    · have d0 : decide ((0 : Int) < (j : Int)) = true := decide_eq_true (by omega)
      obtain ⟨g1, g2⟩ := hprev c0
      have hw1 : IntKind.i64.wrap ((j : Int) - 1) = ((j - 1 : Nat) : Int) := by rw [wrap64 (by omega) (by omega)]; omega
      have q1 : (0 : Int) ≤ ((j - 1 : Nat) : Int) := by omega
      have q2 : ((j - 1 : Nat) : Int) < (m.length : Int) := by omega
      rw [g2] at hn
      simp only [sZ, initT, optI, splice, reduceIte, reduceCtorEq, Nat.reduceEqDiff, Nat.reduceAdd, Nat.reduceSub, Nat.reduceMul, Nat.reduceLeDiff, Nat.reduceLT, Int.reduceLT, Int.reduceLE, Int.reduceToNat, Int.reduceEq, Int.cast_ofNat_Int, f1, Bool.not_true, hg, d0, hw1, q1, q2, g1, Int.toNat_natCast, encObj_0, pvB3, lt_total]
      cases h4 : leS m[j].id m[j - 1].id
      · rw [h4] at hn
        simp only [sZ, initT, optI, splice, reduceIte, reduceCtorEq, Nat.reduceEqDiff, Nat.reduceAdd, Nat.reduceSub, Nat.reduceMul, Nat.reduceLeDiff, Nat.reduceLT, Int.reduceLT, Int.reduceLE, Int.reduceToNat, Int.reduceEq, Int.cast_ofNat_Int, f1, hw]
        exact next_L hj' () (SExt.refl _) rfl (by (try simp only [TabLe_cons, TabLe_nil, tab_cons, tab_nil, upd_apply, Nat.reduceEqDiff, reduceIte, and_true]); repeat' (first | exact trivial | exact A.le_refl _ | exact le_strip_no _ _ _ | exact A.le_no _ _ _ | exact A.le_empty _ _ _ | refine And.intro ?_ ?_)) hn
      · rw [hno (by rw [hn, h4]; rfl)]
        simp only [sZ, initT, optI, splice, reduceIte, reduceCtorEq, Nat.reduceEqDiff, Nat.reduceAdd, Nat.reduceSub, Nat.reduceMul, Nat.reduceLeDiff, Nat.reduceLT, Int.reduceLT, Int.reduceLE, Int.reduceToNat, Int.reduceEq, Int.cast_ofNat_Int, f1]
        refine OutQ.eq (by repeat (first | exact SExt.refl _ | (refine SExt.old ?_ (by first | (simp only [*]; done) | (simp only [upd_none]; assumption) | (simp only [upd_none, *, not_false_eq_true, and_self]; done)) _))) rfl
  · have hje : j = m.length := by have := of_decide_eq_false hge; omega
    subst hje
    rw [List.take_length] at hall
    have hn : mapV m = true := by unfold mapV; rw [hall, decide_eq_true (by omega : m.length ≤ 1000000)]; rfl
    rw [hn]
    simp only [sZ, initT, optI, splice, reduceIte, reduceCtorEq, Nat.reduceEqDiff, Nat.reduceAdd, Nat.reduceSub, Nat.reduceMul, Nat.reduceLeDiff, Nat.reduceLT, Int.reduceLT, Int.reduceLE, Int.reduceToNat, Int.reduceEq, Int.cast_ofNat_Int]
    refine OutQ.eq (by repeat (first | exact SExt.refl _ | (refine SExt.old ?_ (by first | (simp only [*]; done) | (simp only [upd_none]; assumption) | (simp only [upd_none, *, not_false_eq_true, and_self]; done)) _))) rfl
theorem spec_findr (m : List Obj) (i : ByteArray) (hl : m.length < 4611686018427387904) {s : Nat → Option Blk} {k : Nat → Tk} : Spec prg 93 [.agg (encMap m), .str i] s k (.int .i64 (idxOf (fun o : Obj => decide (o.id = i)) m)) s k := by
  refine spec_tr prg_mixed tr_pref12_Find (Nat.le_of_ble_eq_true rfl) rfl ?_
  unfold pc_pref12_Find rs_pref12_Find
  simp only [sZ, initT, optI, splice, reduceIte, reduceCtorEq, Nat.reduceEqDiff, Nat.reduceAdd, Nat.reduceSub, Nat.reduceMul, Nat.reduceLeDiff, Nat.reduceLT, Int.reduceLT, Int.reduceLE, Int.reduceToNat, Int.reduceEq, Int.cast_ofNat_Int, encMap]
  (with_reducible refine newS_in ?_); intro b2 f2; simp only [upd_none] at f2
  simp only [sZ, initT, optI, splice, reduceIte, reduceCtorEq, Nat.reduceEqDiff, Nat.reduceAdd, Nat.reduceSub, Nat.reduceMul, Nat.reduceLeDiff, Nat.reduceLT, Int.reduceLT, Int.reduceLE, Int.reduceToNat, Int.reduceEq, Int.cast_ofNat_Int, f2]
  refine loop_L (α := Unit) m.length (fun j _ => [(1, .str i), (2, .ptr b2 0), (5, .int .i64 j)]) (fun j _ => upd s b2 (some (.cells [.sl 6 (m.map encObj) .no]))) (fun _ _ => k) (fun j _ => ∀ q (h : q < m.length), q < j → decide (m[q].id = i) = false) () (SExt.refl _) rfl (by (try simp only [TabLe_cons, TabLe_nil, tab_cons, tab_nil, upd_apply, Nat.reduceEqDiff, reduceIte, and_true]); repeat' (first | exact trivial | exact A.le_refl _ | exact le_strip_no _ _ _ | exact A.le_no _ _ _ | exact A.le_empty _ _ _ | refine And.intro ?_ ?_)) (fun q _ h => by omega) ?_
  rintro j ⟨⟩ hj hall
  try dsimp only
  simp only [sZ, initT, optI, splice, reduceIte, reduceCtorEq, Nat.reduceEqDiff, Nat.reduceAdd, Nat.reduceSub, Nat.reduceMul, Nat.reduceLeDiff, Nat.reduceLT, Int.reduceLT, Int.reduceLE, Int.reduceToNat, Int.reduceEq, Int.cast_ofNat_Int, f2]
  refine brC_in (fun hlt => ?_) (fun hge => ?_)
  · have hj' : j < m.length := by have := of_decide_eq_true hlt; omega
    clear hlt
    have hw := wrap_succ hj' (by omega)
    have hg : (m.map encObj)[j]? = some (encObj m[j]) := objE.get hj'
    simp only [sZ, initT, optI, splice, reduceIte, reduceCtorEq, Nat.reduceEqDiff, Nat.reduceAdd, Nat.reduceSub, Nat.reduceMul, Nat.reduceLeDiff, Nat.reduceLT, Int.reduceLT, Int.reduceLE, Int.reduceToNat, Int.reduceEq, Int.cast_ofNat_Int, f2, hg, encObj_0]
    refine brC_in (fun h1 => ?_) (fun h1 => ?_)
    · rw [idxOf_some hj' h1 hall]
      simp only [sZ, initT, optI, splice, reduceIte, reduceCtorEq, Nat.reduceEqDiff, Nat.reduceAdd, Nat.reduceSub, Nat.reduceMul, Nat.reduceLeDiff, Nat.reduceLT, Int.reduceLT, Int.reduceLE, Int.reduceToNat, Int.reduceEq, Int.cast_ofNat_Int, f2]
      refine OutQ.eq (by repeat (first | exact SExt.refl _ | (refine SExt.old ?_ (by first | (simp only [*]; done) | (simp only [upd_none]; assumption) | (simp only [upd_none, *, not_false_eq_true, and_self]; done)) _))) rfl
    · simp only [sZ, initT, optI, splice, reduceIte, reduceCtorEq, Nat.reduceEqDiff, Nat.reduceAdd, Nat.reduceSub, Nat.reduceMul, Nat.reduceLeDiff, Nat.reduceLT, Int.reduceLT, Int.reduceLE, Int.reduceToNat, Int.reduceEq, Int.cast_ofNat_Int, hw]
      refine next_L hj' () (SExt.refl _) rfl (by (try simp only [TabLe_cons, TabLe_nil, tab_cons, tab_nil, upd_apply, Nat.reduceEqDiff, reduceIte, and_true]); repeat' (first | exact trivial | exact A.le_refl _ | exact le_strip_no _ _ _ | exact A.le_no _ _ _ | exact A.le_empty _ _ _ | refine And.intro ?_ ?_)) fun q hq h3 => ?_
      by_cases hqj : q = j
      · subst hqj; exact h1
      · exact hall q hq (by omega)
  · have hje : j = m.length := by have := of_decide_eq_false hge; omega
    subst hje
    rw [idxOf_none fun q hq => hall q hq hq]
    simp only [sZ, initT, optI, splice, reduceIte, reduceCtorEq, Nat.reduceEqDiff, Nat.reduceAdd, Nat.reduceSub, Nat.reduceMul, Nat.reduceLeDiff, Nat.reduceLT, Int.reduceLT, Int.reduceLE, Int.reduceToNat, Int.reduceEq, Int.cast_ofNat_Int]
    refine OutQ.eq (by repeat (first | exact SExt.refl _ | (refine SExt.old ?_ (by first | (simp only [*]; done) | (simp only [upd_none]; assumption) | (simp only [upd_none, *, not_false_eq_true, and_self]; done)) _))) rfl
end Go.Pv
