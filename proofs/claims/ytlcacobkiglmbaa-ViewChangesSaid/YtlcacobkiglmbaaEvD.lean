/- Tags and objects that are valid. -/
import Derived.Test.YtlcacobkiglmbaaEvA
set_option linter.unusedVariables false
set_option linter.unusedSimpArgs false
set_option maxRecDepth 4000
set_option maxHeartbeats 1000000
namespace Go.Pv
open Go

/-- A test along a list, in which each element is compared with the key before. -/
def chain {α : Type} (ok : ByteArray → α → Bool) (key : α → ByteArray) : ByteArray → List α → Bool
  | _, [] => true
  | a, x :: l => ok a x && chain ok key (key x) l
def lastK {α : Type} (key : α → ByteArray) : ByteArray → List α → ByteArray
  | a, [] => a
  | _, x :: l => lastK key (key x) l
theorem lastK_take {α : Type} (key : α → ByteArray) : ∀ (l : List α) (a : ByteArray) {j : Nat} (h : j < l.length), lastK key a (l.take (j + 1)) = key l[j]
  | x :: l, a, 0, _ => by simp [lastK]
  | x :: l, a, j + 1, h => by
    rw [List.take_succ_cons]
    exact lastK_take key l (key x) (by simpa using h)
theorem chain_take {α : Type} (ok : ByteArray → α → Bool) (key : α → ByteArray) : ∀ (l : List α) (a : ByteArray) {j : Nat} (h : j < l.length), chain ok key a (l.take (j + 1)) = (chain ok key a (l.take j) && ok (lastK key a (l.take j)) l[j])
  | x :: l, a, 0, _ => by simp [chain, lastK]
  | x :: l, a, j + 1, h => by
    rw [List.take_succ_cons, List.take_succ_cons]
    simp only [chain, lastK, List.getElem_cons_succ]
    rw [chain_take ok key l (key x) (by simpa using h), Bool.and_assoc]
theorem chain_no {α : Type} (ok : ByteArray → α → Bool) (key : α → ByteArray) : ∀ (l : List α) (a : ByteArray) (j : Nat), chain ok key a (l.take j) = false → chain ok key a l = false
  | [], a, j, h => by simpa using h
  | x :: l, a, 0, h => by simp [chain] at h
  | x :: l, a, j + 1, h => by
    rw [List.take_succ_cons] at h
    simp only [chain, Bool.and_eq_false_iff] at h ⊢
    exact h.imp id (chain_no ok key l _ j)
def ltS (a b : ByteArray) : Bool := Op.bytesLess a.data.toList b.data.toList
theorem ltS_eq (a b : ByteArray) : Op.bytesLess a.toList b.toList = ltS a b := by
  unfold ltS
  rw [ByteArray.toList_eq, ByteArray.toList_eq]
def leS (a b : ByteArray) : Bool := ltS a b || decide (a = b)
theorem pvB3 (a b : ByteArray) : binA .leq (.str a) (.str b) = some (.bool (leS a b)) ∧ binA .gtr (.str a) (.str b) = some (.bool (!leS a b)) ∧ binA .geq (.str a) (.str b) = some (.bool (!ltS a b)) := by
  refine ⟨?_, ?_, ?_⟩ <;> simp [binA, leS, ltS_eq]
/-- Lengths below which nothing overflows. -/
def lim : Nat := 4611686018427387904
structure TagFit (t : Tag) : Prop where
  key : t.key.size < 4611686018427387904
  val : t.val.size < 4611686018427387904
structure ObjFit (o : Obj) : Prop where
  id : o.id.size < 4611686018427387904
  refs : o.refs.length < 4611686018427387904
  ref : ∀ r ∈ o.refs, r.size < 4611686018427387904
  tags : o.tags.length < 4611686018427387904
  tag : ∀ t ∈ o.tags, TagFit t
def tagOK (a : ByteArray) (t : Tag) : Bool := nameF t.key && (!leS t.key a && (!decide (t.val = ⟨#[]⟩) && decide (t.val.size ≤ 200)))
def tagsV (l : List Tag) : Bool := chain tagOK Tag.key ⟨#[]⟩ l && decide (l.length ≤ 60)
theorem tagsV_no {l : List Tag} {j : Nat} (h : chain tagOK Tag.key ⟨#[]⟩ (l.take j) = false) : tagsV l = false := by
  unfold tagsV
  rw [chain_no _ _ _ _ _ h, Bool.false_and]
theorem spec_tags (l : List Tag) (hl : l.length < 4611686018427387904) (ht : ∀ t ∈ l, TagFit t) {s : Nat → Option Blk} {k : Nat → Tk} : Spec prg 37 [.sl 2 (l.map encTag) .no] s k (.bool (tagsV l)) s k := by
  refine spec_tr prg_mixed tr_tag_Valid (Nat.le_of_ble_eq_true rfl) rfl ?_
  unfold pc_tag_Valid rs_tag_Valid
  simp only [sZ, initT, optI, splice, reduceIte, reduceCtorEq, Nat.reduceEqDiff, Nat.reduceAdd, Nat.reduceSub, Nat.reduceMul, Nat.reduceLeDiff, Nat.reduceLT, Int.reduceLT, Int.reduceLE, Int.reduceToNat, Int.reduceEq, Int.cast_ofNat_Int]
  refine loop_L (α := Unit) l.length (fun j _ => [(0, .sl 2 (l.map encTag) .no), (2, .bool false), (3, .str (lastK Tag.key ⟨#[]⟩ (l.take j))), (6, .sl 2 (l.map encTag) .no), (7, .int .i64 l.length), (8, .int .i64 j)]) (fun j _ => s) (fun _ _ => k) (fun j _ => chain tagOK Tag.key ⟨#[]⟩ (l.take j) = true) () (SExt.refl _) rfl (by (try simp only [TabLe_cons, TabLe_nil, tab_cons, tab_nil, upd_apply, Nat.reduceEqDiff, reduceIte, and_true]); repeat' (first | exact trivial | exact A.le_refl _ | exact le_strip_no _ _ _ | exact A.le_no _ _ _ | exact A.le_empty _ _ _ | refine And.intro ?_ ?_)) rfl ?_
  rintro j ⟨⟩ hj hall
  try dsimp only
  simp only [sZ, initT, optI, splice, reduceIte, reduceCtorEq, Nat.reduceEqDiff, Nat.reduceAdd, Nat.reduceSub, Nat.reduceMul, Nat.reduceLeDiff, Nat.reduceLT, Int.reduceLT, Int.reduceLE, Int.reduceToNat, Int.reduceEq, Int.cast_ofNat_Int]
  refine brC_in (fun hlt => ?_) (fun hge => ?_)
  · have hj' : j < l.length := by have := of_decide_eq_true hlt; omega
    clear hlt
    have hw := wrap_succ hj' (by omega)
    have hg : (l.map encTag)[j]? = some (encTag l[j]) := tagE.get hj'
    have hn := chain_take tagOK Tag.key l ⟨#[]⟩ hj'
    have hla := lastK_take Tag.key l ⟨#[]⟩ hj'
    have hf := ht _ (List.getElem_mem hj')
    have ho : tagOK (lastK Tag.key ⟨#[]⟩ (l.take j)) l[j] = (nameF l[j].key && (!leS l[j].key (lastK Tag.key ⟨#[]⟩ (l.take j)) && (!decide (l[j].val = ⟨#[]⟩) && decide (l[j].val.size ≤ 200)))) := rfl
    rw [hall, Bool.true_and, ho] at hn
    generalize he : l[j] = t at *
    obtain ⟨key, val⟩ := t
    have hsz : decide (200 < (val.size : Int)) = !decide (val.size ≤ 200) := by rw [← decide_not]; simp; omega
    dsimp only at hn hla
    simp only [sZ, initT, optI, splice, reduceIte, reduceCtorEq, Nat.reduceEqDiff, Nat.reduceAdd, Nat.reduceSub, Nat.reduceMul, Nat.reduceLeDiff, Nat.reduceLT, Int.reduceLT, Int.reduceLE, Int.reduceToNat, Int.reduceEq, Int.cast_ofNat_Int, hg, encTag]
    (with_reducible refine newS_in ?_); intro b5 f5; simp only [upd_none] at f5
    simp only [sZ, initT, optI, splice, reduceIte, reduceCtorEq, Nat.reduceEqDiff, Nat.reduceAdd, Nat.reduceSub, Nat.reduceMul, Nat.reduceLeDiff, Nat.reduceLT, Int.reduceLT, Int.reduceLE, Int.reduceToNat, Int.reduceEq, Int.cast_ofNat_Int, f5, hg, encTag]
    repeat' (first | (refine callS_quiet (spec_Name _ hf.key) ?_) | (first | (with_reducible refine newS_in ?_; intro _ hid_; simp only [upd_none] at hid_) | (with_reducible refine newR_in ?_; intro _ hid_ hih_; simp only [upd_none, upd_none', rr_eqs2, and_true] at hid_ hih_) | (with_reducible refine mkmS_in ?_; intro _ hid_; simp only [upd_none] at hid_)) | (with_reducible refine brC_in (fun h_ => ?_) (fun h_ => ?_)) | (with_reducible refine brG_in (fun h_ => ?_) (fun h_ => ?_)) | (with_reducible refine brN_in (fun h_ => ?_) (fun h_ => ?_)) | simp only [sZ, initT, optI, splice, reduceIte, reduceCtorEq, Nat.reduceEqDiff, Nat.reduceAdd, Nat.reduceSub, Nat.reduceMul, Nat.reduceLeDiff, Nat.reduceLT, Int.reduceLT, Int.reduceLE, Int.reduceToNat, Int.reduceEq, Int.cast_ofNat_Int, *, hsz, hw, pvB3, -hn, -hla, -ho, -hf, -he, -hg])
    all_goals clear ho hg he hf hw hsz
    all_goals first
      | (refine next_L hj' () (by repeat (first | exact SExt.refl _ | (refine SExt.old ?_ (by first | (simp only [*]; done) | (simp only [upd_none]; assumption) | (simp only [upd_none, *, not_false_eq_true, and_self]; done)) _))) rfl ?_ ?_
         · rw [hla]; exact (by (try simp only [TabLe_cons, TabLe_nil, tab_cons, tab_nil, upd_apply, Nat.reduceEqDiff, reduceIte, and_true]); repeat' (first | exact trivial | exact A.le_refl _ | exact le_strip_no _ _ _ | exact A.le_no _ _ _ | exact A.le_empty _ _ _ | refine And.intro ?_ ?_))
         · rw [hn]; clear hn hla hall; simp_all; done)
      | (refine OutQ.eq (by repeat (first | exact SExt.refl _ | (refine SExt.old ?_ (by first | (simp only [*]; done) | (simp only [upd_none]; assumption) | (simp only [upd_none, *, not_false_eq_true, and_self]; done)) _))) ?_
         rw [tagsV_no (j := j + 1) (by rw [hn]; clear hn hla hall; simp_all)])
  · have hje : j = l.length := by have := of_decide_eq_false hge; omega
    subst hje
    clear hge
    have hd : decide ((l.length : Int) ≤ 60) = decide (l.length ≤ 60) := by simp; omega
    rw [List.take_length] at hall
    have hn : tagsV l = decide (l.length ≤ 60) := by unfold tagsV; rw [hall, Bool.true_and]
    repeat' (first | (first | (with_reducible refine newS_in ?_; intro _ hid_; simp only [upd_none] at hid_) | (with_reducible refine newR_in ?_; intro _ hid_ hih_; simp only [upd_none, upd_none', rr_eqs2, and_true] at hid_ hih_) | (with_reducible refine mkmS_in ?_; intro _ hid_; simp only [upd_none] at hid_)) | (with_reducible refine brC_in (fun h_ => ?_) (fun h_ => ?_)) | (with_reducible refine brG_in (fun h_ => ?_) (fun h_ => ?_)) | (with_reducible refine brN_in (fun h_ => ?_) (fun h_ => ?_)) | simp only [sZ, initT, optI, reduceIte, reduceCtorEq, Nat.reduceEqDiff, Nat.reduceAdd, Nat.reduceSub, Nat.reduceMul, Nat.reduceLeDiff, Nat.reduceLT, Int.reduceLT, Int.reduceLE, Int.reduceToNat, Int.reduceEq, Int.cast_ofNat_Int, *, hd, -hn])
    refine OutQ.eq (by repeat (first | exact SExt.refl _ | (refine SExt.old ?_ (by first | (simp only [*]; done) | (simp only [upd_none]; assumption) | (simp only [upd_none, *, not_false_eq_true, and_self]; done)) _))) ?_
    rw [hn]
def kindOK (n : Int) : Bool := decide (1 ≤ n) && decide (n ≤ 5)
def leastF (n : Int) : Int := if n = 2 then 2 else if n = 3 then 3 else if n = 4 then 1 else if n = 5 then 3 else 0
def wordF (n : Int) : ByteArray := if n = 1 then ⟨#[110, 111, 100, 101]⟩ else if n = 2 then ⟨#[119, 97, 121]⟩ else if n = 3 then ⟨#[97, 114, 101, 97]⟩ else if n = 4 then ⟨#[114, 111, 117, 116, 101]⟩ else if n = 5 then ⟨#[116, 117, 114, 110]⟩ else ⟨#[]⟩
theorem word_nil (n : Int) : decide (wordF n = ⟨#[]⟩) = !kindOK n := by
  unfold wordF kindOK
  by_cases h1 : n = 1; · subst h1; decide
  by_cases h2 : n = 2; · subst h2; decide
  by_cases h3 : n = 3; · subst h3; decide
  by_cases h4 : n = 4; · subst h4; decide
  by_cases h5 : n = 5; · subst h5; decide
  rw [if_neg h1, if_neg h2, if_neg h3, if_neg h4, if_neg h5]
  simp
  omega
theorem spec_word (n : Int) {s : Nat → Option Blk} {k : Nat → Tk} : Spec prg 80 [.int .i64 n] s k (.str (wordF n)) s k := by
  refine spec_tr prg_mixed tr_object_word (Nat.le_of_ble_eq_true rfl) rfl ?_
  unfold pc_object_word rs_object_word
  simp only [sZ, initT, optI, splice, reduceIte, reduceCtorEq, Nat.reduceEqDiff, Nat.reduceAdd, Nat.reduceSub, Nat.reduceMul, Nat.reduceLeDiff, Nat.reduceLT, Int.reduceLT, Int.reduceLE, Int.reduceToNat, Int.reduceEq, Int.cast_ofNat_Int]
  (with_reducible refine newS_in ?_); intro b3 f3; simp only [upd_none] at f3
  by_cases h0 : 0 ≤ n ∧ n < 6
  · obtain ⟨i, rfl⟩ : ∃ i : Nat, n = i := ⟨n.toNat, by omega⟩
    have hi : i < 6 := by omega
    clear h0
    match i, hi with
    | 0, _ => repeat' (first | (first | (with_reducible refine newS_in ?_; intro _ hid_; simp only [upd_none] at hid_) | (with_reducible refine newR_in ?_; intro _ hid_ hih_; simp only [upd_none, upd_none', rr_eqs2, and_true] at hid_ hih_) | (with_reducible refine mkmS_in ?_; intro _ hid_; simp only [upd_none] at hid_)) | (with_reducible refine brC_in (fun h_ => ?_) (fun h_ => ?_)) | (with_reducible refine brG_in (fun h_ => ?_) (fun h_ => ?_)) | (with_reducible refine brN_in (fun h_ => ?_) (fun h_ => ?_)) | simp only [sZ, initT, optI, splice, reduceIte, reduceCtorEq, Nat.reduceEqDiff, Nat.reduceAdd, Nat.reduceSub, Nat.reduceMul, Nat.reduceLeDiff, Nat.reduceLT, Int.reduceLT, Int.reduceLE, Int.reduceToNat, Int.reduceEq, Int.cast_ofNat_Int, *]); all_goals refine OutQ.eq (by repeat (first | exact SExt.refl _ | (refine SExt.old ?_ (by first | (simp only [*]; done) | (simp only [upd_none]; assumption) | (simp only [upd_none, *, not_false_eq_true, and_self]; done)) _))) rfl
    | 1, _ => repeat' (first | (first | (with_reducible refine newS_in ?_; intro _ hid_; simp only [upd_none] at hid_) | (with_reducible refine newR_in ?_; intro _ hid_ hih_; simp only [upd_none, upd_none', rr_eqs2, and_true] at hid_ hih_) | (with_reducible refine mkmS_in ?_; intro _ hid_; simp only [upd_none] at hid_)) | (with_reducible refine brC_in (fun h_ => ?_) (fun h_ => ?_)) | (with_reducible refine brG_in (fun h_ => ?_) (fun h_ => ?_)) | (with_reducible refine brN_in (fun h_ => ?_) (fun h_ => ?_)) | simp only [sZ, initT, optI, splice, reduceIte, reduceCtorEq, Nat.reduceEqDiff, Nat.reduceAdd, Nat.reduceSub, Nat.reduceMul, Nat.reduceLeDiff, Nat.reduceLT, Int.reduceLT, Int.reduceLE, Int.reduceToNat, Int.reduceEq, Int.cast_ofNat_Int, *]); all_goals refine OutQ.eq (by repeat (first | exact SExt.refl _ | (refine SExt.old ?_ (by first | (simp only [*]; done) | (simp only [upd_none]; assumption) | (simp only [upd_none, *, not_false_eq_true, and_self]; done)) _))) rfl
    | 2, _ => repeat' (first | (first | (with_reducible refine newS_in ?_; intro _ hid_; simp only [upd_none] at hid_) | (with_reducible refine newR_in ?_; intro _ hid_ hih_; simp only [upd_none, upd_none', rr_eqs2, and_true] at hid_ hih_) | (with_reducible refine mkmS_in ?_; intro _ hid_; simp only [upd_none] at hid_)) | (with_reducible refine brC_in (fun h_ => ?_) (fun h_ => ?_)) | (with_reducible refine brG_in (fun h_ => ?_) (fun h_ => ?_)) | (with_reducible refine brN_in (fun h_ => ?_) (fun h_ => ?_)) | simp only [sZ, initT, optI, splice, reduceIte, reduceCtorEq, Nat.reduceEqDiff, Nat.reduceAdd, Nat.reduceSub, Nat.reduceMul, Nat.reduceLeDiff, Nat.reduceLT, Int.reduceLT, Int.reduceLE, Int.reduceToNat, Int.reduceEq, Int.cast_ofNat_Int, *]); all_goals refine OutQ.eq (by repeat (first | exact SExt.refl _ | (refine SExt.old ?_ (by first | (simp only [*]; done) | (simp only [upd_none]; assumption) | (simp only [upd_none, *, not_false_eq_true, and_self]; done)) _))) rfl
    | 3, _ => repeat' (first | (first | (with_reducible refine newS_in ?_; intro _ hid_; simp only [upd_none] at hid_) | (with_reducible refine newR_in ?_; intro _ hid_ hih_; simp only [upd_none, upd_none', rr_eqs2, and_true] at hid_ hih_) | (with_reducible refine mkmS_in ?_; intro _ hid_; simp only [upd_none] at hid_)) | (with_reducible refine brC_in (fun h_ => ?_) (fun h_ => ?_)) | (with_reducible refine brG_in (fun h_ => ?_) (fun h_ => ?_)) | (with_reducible refine brN_in (fun h_ => ?_) (fun h_ => ?_)) | simp only [sZ, initT, optI, splice, reduceIte, reduceCtorEq, Nat.reduceEqDiff, Nat.reduceAdd, Nat.reduceSub, Nat.reduceMul, Nat.reduceLeDiff, Nat.reduceLT, Int.reduceLT, Int.reduceLE, Int.reduceToNat, Int.reduceEq, Int.cast_ofNat_Int, *]); all_goals refine OutQ.eq (by repeat (first | exact SExt.refl _ | (refine SExt.old ?_ (by first | (simp only [*]; done) | (simp only [upd_none]; assumption) | (simp only [upd_none, *, not_false_eq_true, and_self]; done)) _))) rfl
    | 4, _ => repeat' (first | (first | (with_reducible refine newS_in ?_; intro _ hid_; simp only [upd_none] at hid_) | (with_reducible refine newR_in ?_; intro _ hid_ hih_; simp only [upd_none, upd_none', rr_eqs2, and_true] at hid_ hih_) | (with_reducible refine mkmS_in ?_; intro _ hid_; simp only [upd_none] at hid_)) | (with_reducible refine brC_in (fun h_ => ?_) (fun h_ => ?_)) | (with_reducible refine brG_in (fun h_ => ?_) (fun h_ => ?_)) | (with_reducible refine brN_in (fun h_ => ?_) (fun h_ => ?_)) | simp only [sZ, initT, optI, splice, reduceIte, reduceCtorEq, Nat.reduceEqDiff, Nat.reduceAdd, Nat.reduceSub, Nat.reduceMul, Nat.reduceLeDiff, Nat.reduceLT, Int.reduceLT, Int.reduceLE, Int.reduceToNat, Int.reduceEq, Int.cast_ofNat_Int, *]); all_goals refine OutQ.eq (by repeat (first | exact SExt.refl _ | (refine SExt.old ?_ (by first | (simp only [*]; done) | (simp only [upd_none]; assumption) | (simp only [upd_none, *, not_false_eq_true, and_self]; done)) _))) rfl
    | 5, _ => repeat' (first | (first | (with_reducible refine newS_in ?_; intro _ hid_; simp only [upd_none] at hid_) | (with_reducible refine newR_in ?_; intro _ hid_ hih_; simp only [upd_none, upd_none', rr_eqs2, and_true] at hid_ hih_) | (with_reducible refine mkmS_in ?_; intro _ hid_; simp only [upd_none] at hid_)) | (with_reducible refine brC_in (fun h_ => ?_) (fun h_ => ?_)) | (with_reducible refine brG_in (fun h_ => ?_) (fun h_ => ?_)) | (with_reducible refine brN_in (fun h_ => ?_) (fun h_ => ?_)) | simp only [sZ, initT, optI, splice, reduceIte, reduceCtorEq, Nat.reduceEqDiff, Nat.reduceAdd, Nat.reduceSub, Nat.reduceMul, Nat.reduceLeDiff, Nat.reduceLT, Int.reduceLT, Int.reduceLE, Int.reduceToNat, Int.reduceEq, Int.cast_ofNat_Int, *]); all_goals refine OutQ.eq (by repeat (first | exact SExt.refl _ | (refine SExt.old ?_ (by first | (simp only [*]; done) | (simp only [upd_none]; assumption) | (simp only [upd_none, *, not_false_eq_true, and_self]; done)) _))) rfl
  · have hw : wordF n = ⟨#[]⟩ := by
      unfold wordF
      rw [if_neg (by omega), if_neg (by omega), if_neg (by omega), if_neg (by omega), if_neg (by omega)]
    have hc : decide (n < 0) = true ∨ (decide (n < 0) = false ∧ decide (6 ≤ n) = true) := by simp; omega
    rcases hc with hc | ⟨hc, hd⟩
    · repeat' (first | (first | (with_reducible refine newS_in ?_; intro _ hid_; simp only [upd_none] at hid_) | (with_reducible refine newR_in ?_; intro _ hid_ hih_; simp only [upd_none, upd_none', rr_eqs2, and_true] at hid_ hih_) | (with_reducible refine mkmS_in ?_; intro _ hid_; simp only [upd_none] at hid_)) | (with_reducible refine brC_in (fun h_ => ?_) (fun h_ => ?_)) | (with_reducible refine brG_in (fun h_ => ?_) (fun h_ => ?_)) | (with_reducible refine brN_in (fun h_ => ?_) (fun h_ => ?_)) | simp only [sZ, initT, optI, splice, reduceIte, reduceCtorEq, Nat.reduceEqDiff, Nat.reduceAdd, Nat.reduceSub, Nat.reduceMul, Nat.reduceLeDiff, Nat.reduceLT, Int.reduceLT, Int.reduceLE, Int.reduceToNat, Int.reduceEq, Int.cast_ofNat_Int, *, hc])
      all_goals refine OutQ.eq (by repeat (first | exact SExt.refl _ | (refine SExt.old ?_ (by first | (simp only [*]; done) | (simp only [upd_none]; assumption) | (simp only [upd_none, *, not_false_eq_true, and_self]; done)) _))) rfl
    · repeat' (first | (first | (with_reducible refine newS_in ?_; intro _ hid_; simp only [upd_none] at hid_) | (with_reducible refine newR_in ?_; intro _ hid_ hih_; simp only [upd_none, upd_none', rr_eqs2, and_true] at hid_ hih_) | (with_reducible refine mkmS_in ?_; intro _ hid_; simp only [upd_none] at hid_)) | (with_reducible refine brC_in (fun h_ => ?_) (fun h_ => ?_)) | (with_reducible refine brG_in (fun h_ => ?_) (fun h_ => ?_)) | (with_reducible refine brN_in (fun h_ => ?_) (fun h_ => ?_)) | simp only [sZ, initT, optI, splice, reduceIte, reduceCtorEq, Nat.reduceEqDiff, Nat.reduceAdd, Nat.reduceSub, Nat.reduceMul, Nat.reduceLeDiff, Nat.reduceLT, Int.reduceLT, Int.reduceLE, Int.reduceToNat, Int.reduceEq, Int.cast_ofNat_Int, *, hc, hd])
      all_goals refine OutQ.eq (by repeat (first | exact SExt.refl _ | (refine SExt.old ?_ (by first | (simp only [*]; done) | (simp only [upd_none]; assumption) | (simp only [upd_none, *, not_false_eq_true, and_self]; done)) _))) rfl
theorem spec_least (n : Int) (hn : kindOK n = true) {s : Nat → Option Blk} {k : Nat → Tk} : Spec prg 81 [.int .i64 n] s k (.int .i64 (leastF n)) s k := by
  refine spec_tr prg_mixed tr_object_least (Nat.le_of_ble_eq_true rfl) rfl ?_
  unfold pc_object_least rs_object_least
  unfold kindOK at hn
  simp only [Bool.and_eq_true, decide_eq_true_eq] at hn
  obtain ⟨i, rfl⟩ : ∃ i : Nat, n = i := ⟨n.toNat, by omega⟩
  have hi : i < 6 := by omega
  match i, hi with
  | 0, _ => repeat' (first | (first | (with_reducible refine newS_in ?_; intro _ hid_; simp only [upd_none] at hid_) | (with_reducible refine newR_in ?_; intro _ hid_ hih_; simp only [upd_none, upd_none', rr_eqs2, and_true] at hid_ hih_) | (with_reducible refine mkmS_in ?_; intro _ hid_; simp only [upd_none] at hid_)) | (with_reducible refine brC_in (fun h_ => ?_) (fun h_ => ?_)) | (with_reducible refine brG_in (fun h_ => ?_) (fun h_ => ?_)) | (with_reducible refine brN_in (fun h_ => ?_) (fun h_ => ?_)) | simp only [sZ, initT, optI, splice, reduceIte, reduceCtorEq, Nat.reduceEqDiff, Nat.reduceAdd, Nat.reduceSub, Nat.reduceMul, Nat.reduceLeDiff, Nat.reduceLT, Int.reduceLT, Int.reduceLE, Int.reduceToNat, Int.reduceEq, Int.cast_ofNat_Int, *]); all_goals refine OutQ.eq (by repeat (first | exact SExt.refl _ | (refine SExt.old ?_ (by first | (simp only [*]; done) | (simp only [upd_none]; assumption) | (simp only [upd_none, *, not_false_eq_true, and_self]; done)) _))) rfl
  | 1, _ => repeat' (first | (first | (with_reducible refine newS_in ?_; intro _ hid_; simp only [upd_none] at hid_) | (with_reducible refine newR_in ?_; intro _ hid_ hih_; simp only [upd_none, upd_none', rr_eqs2, and_true] at hid_ hih_) | (with_reducible refine mkmS_in ?_; intro _ hid_; simp only [upd_none] at hid_)) | (with_reducible refine brC_in (fun h_ => ?_) (fun h_ => ?_)) | (with_reducible refine brG_in (fun h_ => ?_) (fun h_ => ?_)) | (with_reducible refine brN_in (fun h_ => ?_) (fun h_ => ?_)) | simp only [sZ, initT, optI, splice, reduceIte, reduceCtorEq, Nat.reduceEqDiff, Nat.reduceAdd, Nat.reduceSub, Nat.reduceMul, Nat.reduceLeDiff, Nat.reduceLT, Int.reduceLT, Int.reduceLE, Int.reduceToNat, Int.reduceEq, Int.cast_ofNat_Int, *]); all_goals refine OutQ.eq (by repeat (first | exact SExt.refl _ | (refine SExt.old ?_ (by first | (simp only [*]; done) | (simp only [upd_none]; assumption) | (simp only [upd_none, *, not_false_eq_true, and_self]; done)) _))) rfl
  | 2, _ => repeat' (first | (first | (with_reducible refine newS_in ?_; intro _ hid_; simp only [upd_none] at hid_) | (with_reducible refine newR_in ?_; intro _ hid_ hih_; simp only [upd_none, upd_none', rr_eqs2, and_true] at hid_ hih_) | (with_reducible refine mkmS_in ?_; intro _ hid_; simp only [upd_none] at hid_)) | (with_reducible refine brC_in (fun h_ => ?_) (fun h_ => ?_)) | (with_reducible refine brG_in (fun h_ => ?_) (fun h_ => ?_)) | (with_reducible refine brN_in (fun h_ => ?_) (fun h_ => ?_)) | simp only [sZ, initT, optI, splice, reduceIte, reduceCtorEq, Nat.reduceEqDiff, Nat.reduceAdd, Nat.reduceSub, Nat.reduceMul, Nat.reduceLeDiff, Nat.reduceLT, Int.reduceLT, Int.reduceLE, Int.reduceToNat, Int.reduceEq, Int.cast_ofNat_Int, *]); all_goals refine OutQ.eq (by repeat (first | exact SExt.refl _ | (refine SExt.old ?_ (by first | (simp only [*]; done) | (simp only [upd_none]; assumption) | (simp only [upd_none, *, not_false_eq_true, and_self]; done)) _))) rfl
  | 3, _ => repeat' (first | (first | (with_reducible refine newS_in ?_; intro _ hid_; simp only [upd_none] at hid_) | (with_reducible refine newR_in ?_; intro _ hid_ hih_; simp only [upd_none, upd_none', rr_eqs2, and_true] at hid_ hih_) | (with_reducible refine mkmS_in ?_; intro _ hid_; simp only [upd_none] at hid_)) | (with_reducible refine brC_in (fun h_ => ?_) (fun h_ => ?_)) | (with_reducible refine brG_in (fun h_ => ?_) (fun h_ => ?_)) | (with_reducible refine brN_in (fun h_ => ?_) (fun h_ => ?_)) | simp only [sZ, initT, optI, splice, reduceIte, reduceCtorEq, Nat.reduceEqDiff, Nat.reduceAdd, Nat.reduceSub, Nat.reduceMul, Nat.reduceLeDiff, Nat.reduceLT, Int.reduceLT, Int.reduceLE, Int.reduceToNat, Int.reduceEq, Int.cast_ofNat_Int, *]); all_goals refine OutQ.eq (by repeat (first | exact SExt.refl _ | (refine SExt.old ?_ (by first | (simp only [*]; done) | (simp only [upd_none]; assumption) | (simp only [upd_none, *, not_false_eq_true, and_self]; done)) _))) rfl
  | 4, _ => repeat' (first | (first | (with_reducible refine newS_in ?_; intro _ hid_; simp only [upd_none] at hid_) | (with_reducible refine newR_in ?_; intro _ hid_ hih_; simp only [upd_none, upd_none', rr_eqs2, and_true] at hid_ hih_) | (with_reducible refine mkmS_in ?_; intro _ hid_; simp only [upd_none] at hid_)) | (with_reducible refine brC_in (fun h_ => ?_) (fun h_ => ?_)) | (with_reducible refine brG_in (fun h_ => ?_) (fun h_ => ?_)) | (with_reducible refine brN_in (fun h_ => ?_) (fun h_ => ?_)) | simp only [sZ, initT, optI, splice, reduceIte, reduceCtorEq, Nat.reduceEqDiff, Nat.reduceAdd, Nat.reduceSub, Nat.reduceMul, Nat.reduceLeDiff, Nat.reduceLT, Int.reduceLT, Int.reduceLE, Int.reduceToNat, Int.reduceEq, Int.cast_ofNat_Int, *]); all_goals refine OutQ.eq (by repeat (first | exact SExt.refl _ | (refine SExt.old ?_ (by first | (simp only [*]; done) | (simp only [upd_none]; assumption) | (simp only [upd_none, *, not_false_eq_true, and_self]; done)) _))) rfl
  | 5, _ => repeat' (first | (first | (with_reducible refine newS_in ?_; intro _ hid_; simp only [upd_none] at hid_) | (with_reducible refine newR_in ?_; intro _ hid_ hih_; simp only [upd_none, upd_none', rr_eqs2, and_true] at hid_ hih_) | (with_reducible refine mkmS_in ?_; intro _ hid_; simp only [upd_none] at hid_)) | (with_reducible refine brC_in (fun h_ => ?_) (fun h_ => ?_)) | (with_reducible refine brG_in (fun h_ => ?_) (fun h_ => ?_)) | (with_reducible refine brN_in (fun h_ => ?_) (fun h_ => ?_)) | simp only [sZ, initT, optI, splice, reduceIte, reduceCtorEq, Nat.reduceEqDiff, Nat.reduceAdd, Nat.reduceSub, Nat.reduceMul, Nat.reduceLeDiff, Nat.reduceLT, Int.reduceLT, Int.reduceLE, Int.reduceToNat, Int.reduceEq, Int.cast_ofNat_Int, *]); all_goals refine OutQ.eq (by repeat (first | exact SExt.refl _ | (refine SExt.old ?_ (by first | (simp only [*]; done) | (simp only [upd_none]; assumption) | (simp only [upd_none, *, not_false_eq_true, and_self]; done)) _))) rfl
def gridF (x y : Int) : Bool := decide (0 ≤ x) && (decide (x < 1048576) && (decide (0 ≤ y) && decide (y < 1048576)))
theorem spec_grid (x y : Int) {s : Nat → Option Blk} {k : Nat → Tk} : Spec prg 84 [.agg [.int .i64 x, .int .i64 y]] s k (.bool (gridF x y)) s k := by
  refine spec_tr prg_mixed tr_object_on (Nat.le_of_ble_eq_true rfl) rfl ?_
  unfold pc_object_on rs_object_on
  repeat' (first | (first | (with_reducible refine newS_in ?_; intro _ hid_; simp only [upd_none] at hid_) | (with_reducible refine newR_in ?_; intro _ hid_ hih_; simp only [upd_none, upd_none', rr_eqs2, and_true] at hid_ hih_) | (with_reducible refine mkmS_in ?_; intro _ hid_; simp only [upd_none] at hid_)) | (with_reducible refine brC_in (fun h_ => ?_) (fun h_ => ?_)) | (with_reducible refine brG_in (fun h_ => ?_) (fun h_ => ?_)) | (with_reducible refine brN_in (fun h_ => ?_) (fun h_ => ?_)) | simp only [sZ, initT, optI, splice, reduceIte, reduceCtorEq, Nat.reduceEqDiff, Nat.reduceAdd, Nat.reduceSub, Nat.reduceMul, Nat.reduceLeDiff, Nat.reduceLT, Int.reduceLT, Int.reduceLE, Int.reduceToNat, Int.reduceEq, Int.cast_ofNat_Int, *])
  all_goals refine OutQ.eq (by repeat (first | exact SExt.refl _ | (refine SExt.old ?_ (by first | (simp only [*]; done) | (simp only [upd_none]; assumption) | (simp only [upd_none, *, not_false_eq_true, and_self]; done)) _))) ?_
  all_goals simp only [gridF, *, Bool.true_and, Bool.false_and, Bool.and_true, Bool.and_false]
theorem OutR.eq {s s' : Hp} {k k' : Nat → Tk} {R : A → Hp → (Nat → Tk) → Prop} {r : A} {t : Nat → A} (h : R r s' k') : OutR s k R r ⟨t, s', k'⟩ := ⟨r, s', k', h, .le (A.le_refl _), fun _ => .inr rfl, .inl rfl⟩
theorem lookM_set {α : Type} (x y : ByteArray) (v : α) : ∀ l : List (ByteArray × α), lookM x (setM y v l) = if x = y then some v else lookM x l
  | [] => by
    simp only [setM, lookM]
  | p :: l => by
    simp only [setM]
    by_cases h : y = p.1
    · rw [if_pos h]
      simp only [lookM]
      by_cases h2 : x = y
      · rw [if_pos h2, if_pos h2]
      · rw [if_neg h2, if_neg h2, if_neg (fun e => h2 (e.trans h.symm))]
    · rw [if_neg h]
      simp only [lookM]
      rw [lookM_set x y v l]
      by_cases h2 : x = p.1
      · rw [if_pos h2, if_pos h2, if_neg (fun e => h (e.symm.trans h2))]
      · rw [if_neg h2, if_neg h2]
/-- What the names seen so far come to. -/
def seenM : List ByteArray → List (ByteArray × Bool) → List (ByteArray × Bool)
  | [], m => m
  | x :: l, m => seenM l (setM x true m)
theorem seenM_take : ∀ (l : List ByteArray) (m : List (ByteArray × Bool)) {j : Nat} (h : j < l.length), seenM (l.take (j + 1)) m = setM l[j] true (seenM (l.take j) m)
  | x :: l, m, 0, _ => by simp [seenM]
  | x :: l, m, j + 1, h => by
    rw [List.take_succ_cons, List.take_succ_cons]
    simp only [seenM, List.getElem_cons_succ]
    exact seenM_take l _ (by simpa using h)
def memB (x : ByteArray) (l : List ByteArray) : Bool := l.any fun y => decide (x = y)
theorem look_seen (x : ByteArray) : ∀ (l : List ByteArray) (m : List (ByteArray × Bool)), lookM x (seenM l m) = if memB x l then some true else lookM x m
  | [], m => by simp [seenM, memB]
  | y :: l, m => by
    simp only [seenM]
    rw [look_seen x l, lookM_set]
    unfold memB
    rw [List.any_cons]
    by_cases h : x = y
    · rw [decide_eq_true h, Bool.true_or, if_pos h, ite_self, if_pos rfl]
    · rw [decide_eq_false h, Bool.false_or, if_neg h]
def idK (x : ByteArray) : ByteArray := x
def encB (b : Bool) : A := .bool b
def wrongF (kind : Int) (l : List ByteArray) (j : Nat) (x : ByteArray) : Bool :=
  ((decide (kind = 2) && decide (x = lastK idK ⟨#[]⟩ (l.take j))) || (decide (kind = 3) && memB x (l.take j))) || !nameF x
theorem mset_B (l : List (ByteArray × Bool)) (s : ByteArray) (v : Bool) (id : Nat) (st : St) (K : A → St → Prop) :
    msetB .str (some (.map (encM encB l))) id (.str s) (.bool v) st K = K .undef ⟨st.t, upd st.s id (some (.map (encM encB (setM s v l)))), st.k⟩ := mset_M encB l s v id rfl rfl st K
theorem look_B (l : List (ByteArray × Bool)) (x : ByteArray) (b : Bool) (h : lookM x l = if b then some true else none) (st : St) (K : A → St → Prop) : lookB .str false (.bool false) (some (.map (encM encB l))) (.str x) st K = K (.bool b) st := by
  rw [look_M, h]
  cases b <;> rfl
theorem spec_wrong (kind : Int) (l : List ByteArray) (j : Nat) (x : ByteArray) (hx : x.size < 4611686018427387904) {s : Nat → Option Blk} {k : Nat → Tk} {o lb mb mi : Nat} {i x1 y1 rf tg : A}
    (ho : s o = some (.cells [i, .int .i64 kind, x1, y1, rf, tg])) (hl : s lb = some (.cells [.str (lastK idK ⟨#[]⟩ (l.take j))])) (hm : s mb = some (.cells [.map mi])) (hi : s mi = some (.map (encM encB (seenM (l.take j) [])))) (h1 : ¬ mb = mi) (h2 : ¬ lb = mi) :
    SpecR prg 82 [.str x, .ptr o 0, .ptr lb 0, .ptr mb 0] s k fun r s' k' => r = .bool (wrongF kind l j x) ∧ s' = upd (upd s mi (some (.map (encM encB (setM x true (seenM (l.take j) [])))))) lb (some (.cells [.str x])) ∧ k' = k := by
  refine specR_tr prg_mixed tr_object_Valid_1 (Nat.le_of_ble_eq_true rfl) rfl ?_
  unfold pc_object_Valid_1 rs_object_Valid_1
  have hw : wrongF kind l j x = (((decide (kind = 2) && decide (x = lastK idK ⟨#[]⟩ (l.take j))) || (decide (kind = 3) && memB x (l.take j))) || !nameF x) := rfl
  have hlk : lookM x (seenM (l.take j) []) = if memB x (l.take j) then some true else none := look_seen x (l.take j) []
  generalize lastK idK ⟨#[]⟩ (l.take j) = a at *
  generalize hM : seenM (l.take j) [] = M at *
  generalize memB x (l.take j) = mm at *
  have hlb := fun st K => look_B M x mm hlk st K
  repeat' (first | (refine callS_quiet (spec_Name _ hx) ?_) | (first | (with_reducible refine newS_in ?_; intro _ hid_; simp only [upd_none] at hid_) | (with_reducible refine newR_in ?_; intro _ hid_ hih_; simp only [upd_none, upd_none', rr_eqs2, and_true] at hid_ hih_) | (with_reducible refine mkmS_in ?_; intro _ hid_; simp only [upd_none] at hid_)) | (with_reducible refine brC_in (fun h_ => ?_) (fun h_ => ?_)) | (with_reducible refine brG_in (fun h_ => ?_) (fun h_ => ?_)) | (with_reducible refine brN_in (fun h_ => ?_) (fun h_ => ?_)) | simp only [sZ, initT, optI, splice, reduceIte, reduceCtorEq, Nat.reduceEqDiff, Nat.reduceAdd, Nat.reduceSub, Nat.reduceMul, Nat.reduceLeDiff, Nat.reduceLT, Int.reduceLT, Int.reduceLE, Int.reduceToNat, Int.reduceEq, Int.cast_ofNat_Int, *, hlb, mset_B, ho, hl, hm, hi, h1, h2, -hw, -hM, -hlk])
  all_goals
    refine OutR.eq ⟨?_, rfl, rfl⟩
    rw [hw]
    simp only [*, Bool.true_and, Bool.false_and, Bool.and_true, Bool.and_false, Bool.true_or, Bool.false_or, Bool.or_true, Bool.or_false]
theorem range_any_take (p : Nat → Bool) {n j : Nat} (h : j < n) (hp : p j = true) : (List.range n).any p = true := List.any_eq_true.2 ⟨j, List.mem_range.2 h, hp⟩
theorem range_any_succ (p : Nat → Bool) (j : Nat) : (List.range (j + 1)).any p = ((List.range j).any p || p j) := by
  rw [List.range_succ, List.any_append]
  simp
theorem spec_idxS (l : List ByteArray) (hl : l.length < 4611686018427387904) (fid : FuncId) (caps : List A) (S : Nat → Hp) (k : Nat → Tk) (p : Nat → Bool)
    (hp : ∀ j (hj : j < l.length), SpecR prg fid (.str l[j] :: caps) (S j) k fun r s' k' => r = .bool (p j) ∧ s' = S (j + 1) ∧ k' = k) :
    SpecR prg 113 [.sl 1 (l.map encStr) .no, .fn fid caps] (S 0) k fun r s' k' => ∃ n v, r = .int .i64 v ∧ s' = S n ∧ k' = k ∧ decide (0 ≤ v) = (List.range l.length).any p := by
  refine specR_tr prg_mixed tr_slices_IndexFunc_string (Nat.le_of_ble_eq_true rfl) rfl ?_
  unfold pc_slices_IndexFunc_string rs_slices_IndexFunc_string
  simp only [sZ, initT, optI, splice, reduceIte, reduceCtorEq, Nat.reduceEqDiff, Nat.reduceAdd, Nat.reduceSub, Nat.reduceMul, Nat.reduceLeDiff, Nat.reduceLT, Int.reduceLT, Int.reduceLE, Int.reduceToNat, Int.reduceEq, Int.cast_ofNat_Int]
  refine loop_L (α := Unit) l.length (fun j _ => [(0, .sl 1 (l.map encStr) .no), (1, .fn fid caps), (7, .int .i64 l.length), (8, .int .i64 j)]) (fun j _ => S j) (fun _ _ => k) (fun j _ => (List.range j).any p = false) () (SExt.refl _) rfl (by (try simp only [TabLe_cons, TabLe_nil, tab_cons, tab_nil, upd_apply, Nat.reduceEqDiff, reduceIte, and_true]); repeat' (first | exact trivial | exact A.le_refl _ | exact le_strip_no _ _ _ | exact A.le_no _ _ _ | exact A.le_empty _ _ _ | refine And.intro ?_ ?_)) rfl ?_
  rintro j ⟨⟩ hj hall
  try dsimp only
  simp only [sZ, initT, optI, splice, reduceIte, reduceCtorEq, Nat.reduceEqDiff, Nat.reduceAdd, Nat.reduceSub, Nat.reduceMul, Nat.reduceLeDiff, Nat.reduceLT, Int.reduceLT, Int.reduceLE, Int.reduceToNat, Int.reduceEq, Int.cast_ofNat_Int]
  refine brC_in (fun hlt => ?_) (fun hge => ?_)
  · have hj' : j < l.length := by have := of_decide_eq_true hlt; omega
    clear hlt
    have hw := wrap_succ hj' (by omega)
    have hg : (l.map encStr)[j]? = some (encStr l[j]) := strE.get hj'
    simp only [sZ, initT, optI, splice, reduceIte, reduceCtorEq, Nat.reduceEqDiff, Nat.reduceAdd, Nat.reduceSub, Nat.reduceMul, Nat.reduceLeDiff, Nat.reduceLT, Int.reduceLT, Int.reduceLE, Int.reduceToNat, Int.reduceEq, Int.cast_ofNat_Int, hg, get_str]
    refine callS_R (hp j hj') ?_
    rintro r s' k' ⟨rfl, rfl, rfl⟩
    simp only [sZ, initT, optI, splice, reduceIte, reduceCtorEq, Nat.reduceEqDiff, Nat.reduceAdd, Nat.reduceSub, Nat.reduceMul, Nat.reduceLeDiff, Nat.reduceLT, Int.reduceLT, Int.reduceLE, Int.reduceToNat, Int.reduceEq, Int.cast_ofNat_Int]
    refine brC_in (fun h1 => ?_) (fun h0 => ?_)
    · simp only [sZ, initT, optI, splice, reduceIte, reduceCtorEq, Nat.reduceEqDiff, Nat.reduceAdd, Nat.reduceSub, Nat.reduceMul, Nat.reduceLeDiff, Nat.reduceLT, Int.reduceLT, Int.reduceLE, Int.reduceToNat, Int.reduceEq, Int.cast_ofNat_Int]
      refine OutR.eq ⟨j + 1, j, rfl, rfl, rfl, ?_⟩
      rw [range_any_take p hj' h1]
      simp
    · simp only [sZ, initT, optI, splice, reduceIte, reduceCtorEq, Nat.reduceEqDiff, Nat.reduceAdd, Nat.reduceSub, Nat.reduceMul, Nat.reduceLeDiff, Nat.reduceLT, Int.reduceLT, Int.reduceLE, Int.reduceToNat, Int.reduceEq, Int.cast_ofNat_Int, hw]
      refine next_L hj' () (SExt.refl _) rfl (by (try simp only [TabLe_cons, TabLe_nil, tab_cons, tab_nil, upd_apply, Nat.reduceEqDiff, reduceIte, and_true]); repeat' (first | exact trivial | exact A.le_refl _ | exact le_strip_no _ _ _ | exact A.le_no _ _ _ | exact A.le_empty _ _ _ | refine And.intro ?_ ?_)) ?_
      rw [range_any_succ, hall, h0]
      rfl
  · have hje : j = l.length := by have := of_decide_eq_false hge; omega
    subst hje
    simp only [sZ, initT, optI, splice, reduceIte, reduceCtorEq, Nat.reduceEqDiff, Nat.reduceAdd, Nat.reduceSub, Nat.reduceMul, Nat.reduceLeDiff, Nat.reduceLT, Int.reduceLT, Int.reduceLE, Int.reduceToNat, Int.reduceEq, Int.cast_ofNat_Int]
    refine OutR.eq ⟨l.length, -1, rfl, rfl, rfl, ?_⟩
    rw [hall]
    rfl
theorem spec_contS (l : List ByteArray) (hl : l.length < 4611686018427387904) (fid : FuncId) (caps : List A) (S : Nat → Hp) (k : Nat → Tk) (p : Nat → Bool)
    (hp : ∀ j (hj : j < l.length), SpecR prg fid (.str l[j] :: caps) (S j) k fun r s' k' => r = .bool (p j) ∧ s' = S (j + 1) ∧ k' = k) :
    SpecR prg 83 [.sl 1 (l.map encStr) .no, .fn fid caps] (S 0) k fun r s' k' => ∃ n, r = .bool ((List.range l.length).any p) ∧ s' = S n ∧ k' = k := by
  refine specR_tr prg_mixed tr_slices_ContainsFunc_string (Nat.le_of_ble_eq_true rfl) rfl ?_
  unfold pc_slices_ContainsFunc_string rs_slices_ContainsFunc_string
  simp only [sZ, initT, optI, splice, reduceIte, reduceCtorEq, Nat.reduceEqDiff, Nat.reduceAdd, Nat.reduceSub, Nat.reduceMul, Nat.reduceLeDiff, Nat.reduceLT, Int.reduceLT, Int.reduceLE, Int.reduceToNat, Int.reduceEq, Int.cast_ofNat_Int]
  refine callS_R (spec_idxS l hl fid caps S k p hp) ?_
  rintro r s' k' ⟨n, v, rfl, rfl, rfl, hv⟩
  simp only [sZ, initT, optI, splice, reduceIte, reduceCtorEq, Nat.reduceEqDiff, Nat.reduceAdd, Nat.reduceSub, Nat.reduceMul, Nat.reduceLeDiff, Nat.reduceLT, Int.reduceLT, Int.reduceLE, Int.reduceToNat, Int.reduceEq, Int.cast_ofNat_Int, hv]
  exact OutR.eq ⟨n, rfl, rfl, rfl⟩
end Go.Pv
