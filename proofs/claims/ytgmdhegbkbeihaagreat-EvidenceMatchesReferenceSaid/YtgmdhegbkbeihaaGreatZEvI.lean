/- Edits that are valid. -/
import Derived.Test.YtgmdhegbkbeihaaGreatZEvH
set_option linter.unusedVariables false
set_option linter.unusedSimpArgs false
set_option maxRecDepth 4000
set_option maxHeartbeats 2000000
namespace Go.Pv
open Go

theorem spec_names_1 (x : ByteArray) (hx : x.size < 4611686018427387904) {s : Nat → Option Blk} {k : Nat → Tk} : Spec prg 77 [.str x] s k (.bool (!nameF x)) s k := by
  refine spec_tr prg_mixed tr_edit_names_1 (Nat.le_of_ble_eq_true rfl) rfl ?_
  unfold pc_edit_names_1 rs_edit_names_1
  repeat' (first | (refine callS_quiet (spec_Name x hx) ?_) | (first | (with_reducible refine newS_in ?_; intro _ hid_; simp only [upd_none] at hid_) | (with_reducible refine newR_in ?_; intro _ hid_ hih_; simp only [upd_none, upd_none', rr_eqs2, and_true] at hid_ hih_) | (with_reducible refine mkmS_in ?_; intro _ hid_; simp only [upd_none] at hid_)) | (with_reducible refine brC_in (fun h_ => ?_) (fun h_ => ?_)) | (with_reducible refine brG_in (fun h_ => ?_) (fun h_ => ?_)) | (with_reducible refine brN_in (fun h_ => ?_) (fun h_ => ?_)) | simp only [sZ, initT, optI, splice, reduceIte, reduceCtorEq, Nat.reduceEqDiff, Nat.reduceAdd, Nat.reduceSub, Nat.reduceMul, Nat.reduceLeDiff, Nat.reduceLT, Int.reduceLT, Int.reduceLE, Int.reduceToNat, Int.reduceEq, Int.cast_ofNat_Int, *])
  refine OutQ.eq (by repeat (first | exact SExt.refl _ | (refine SExt.old ?_ (by first | (simp only [*]; done) | (simp only [upd_none]; assumption) | (simp only [upd_none, *, not_false_eq_true, and_self]; done)) _))) rfl
theorem range_any_get {α : Type} (p : α → Bool) (l : List α) (d : α) : ((List.range l.length).any fun j => p (l.getD j d)) = l.any p := by
  rw [Bool.eq_iff_iff, List.any_eq_true, List.any_eq_true]
  constructor
  · rintro ⟨j, hj, hp⟩
    have hj' := List.mem_range.1 hj
    rw [List.getD_eq_getElem?_getD, List.getElem?_eq_getElem hj'] at hp
    exact ⟨_, List.getElem_mem hj', hp⟩
  · rintro ⟨x, hx, hp⟩
    obtain ⟨j, hj, rfl⟩ := List.getElem_of_mem hx
    refine ⟨j, List.mem_range.2 hj, ?_⟩
    rw [List.getD_eq_getElem?_getD, List.getElem?_eq_getElem hj]
    exact hp
theorem spec_contStr (l : List ByteArray) (hl : l.length < 4611686018427387904) (fid : FuncId) (caps : List A) (p : ByteArray → Bool) {s : Hp} {k : Nat → Tk}
    (hp : ∀ x ∈ l, Spec prg fid (.str x :: caps) s k (.bool (p x)) s k) : Spec prg 76 [.sl 1 (l.map encStr) .no, .fn fid caps] s k (.bool (l.any p)) s k := by
  have h := spec_contS l hl fid caps (fun _ => s) k (fun j => p (l.getD j ⟨#[]⟩)) (fun j hj => by
    have hg : l.getD j ⟨#[]⟩ = l[j] := by rw [List.getD_eq_getElem?_getD, List.getElem?_eq_getElem hj]; rfl
    rw [hg]
    exact (hp _ (List.getElem_mem hj)).toR)
  rw [range_any_get] at h
  intro w E vs a b c
  refine (h w E vs a b c).mono ?_
  rintro v w' ⟨r, s', k', ⟨n, rfl, rfl, rfl⟩, hr⟩
  exact hr
theorem spec_names (l : List ByteArray) (hl : l.length < 4611686018427387904) (hs : ∀ x ∈ l, x.size < 4611686018427387904) {s : Nat → Option Blk} {k : Nat → Tk} : Spec prg 44 [.sl 1 (l.map encStr) .no] s k (.bool (l.all nameF)) s k := by
  refine spec_tr prg_mixed tr_edit_names (Nat.le_of_ble_eq_true rfl) rfl ?_
  unfold pc_edit_names rs_edit_names
  repeat' (first | (refine callS_quiet (spec_contStr l hl _ [] (fun x => !nameF x) (fun x hx => spec_names_1 x (hs x hx))) ?_) | (first | (with_reducible refine newS_in ?_; intro _ hid_; simp only [upd_none] at hid_) | (with_reducible refine newR_in ?_; intro _ hid_ hih_; simp only [upd_none, upd_none', rr_eqs2, and_true] at hid_ hih_) | (with_reducible refine mkmS_in ?_; intro _ hid_; simp only [upd_none] at hid_)) | (with_reducible refine brC_in (fun h_ => ?_) (fun h_ => ?_)) | (with_reducible refine brG_in (fun h_ => ?_) (fun h_ => ?_)) | (with_reducible refine brN_in (fun h_ => ?_) (fun h_ => ?_)) | simp only [sZ, initT, optI, splice, reduceIte, reduceCtorEq, Nat.reduceEqDiff, Nat.reduceAdd, Nat.reduceSub, Nat.reduceMul, Nat.reduceLeDiff, Nat.reduceLT, Int.reduceLT, Int.reduceLE, Int.reduceToNat, Int.reduceEq, Int.cast_ofNat_Int, *])
  refine OutQ.eq (by repeat (first | exact SExt.refl _ | (refine SExt.old ?_ (by first | (simp only [*]; done) | (simp only [upd_none]; assumption) | (simp only [upd_none, *, not_false_eq_true, and_self]; done)) _))) ?_
  rw [List.all_eq_not_any_not]
structure EditFit (e : Edit) : Prop where
  id : e.id.size < 4611686018427387904
  other : e.other.size < 4611686018427387904
  node : e.node.size < 4611686018427387904
  key : e.key.size < 4611686018427387904
  val : e.val.size < 4611686018427387904
  refs : e.refs.length < 4611686018427387904
  ref : ∀ r ∈ e.refs, r.size < 4611686018427387904
  obj : ObjFit e.obj
def wantE (e : Edit) : Edit :=
  if e.op = 1 then ⟨e.op, ⟨#[]⟩, ⟨#[]⟩, ⟨#[]⟩, 0, 0, ⟨#[]⟩, ⟨#[]⟩, [], e.obj⟩
  else if e.op = 2 then ⟨e.op, e.id, ⟨#[]⟩, ⟨#[]⟩, e.x, e.y, ⟨#[]⟩, ⟨#[]⟩, [], zeroObj⟩
  else if e.op = 3 then ⟨e.op, e.id, ⟨#[]⟩, ⟨#[]⟩, 0, 0, e.key, e.val, [], zeroObj⟩
  else if e.op = 4 then ⟨e.op, e.id, ⟨#[]⟩, ⟨#[]⟩, 0, 0, ⟨#[]⟩, ⟨#[]⟩, e.refs, zeroObj⟩
  else if e.op = 5 then ⟨e.op, e.id, ⟨#[]⟩, ⟨#[]⟩, 0, 0, ⟨#[]⟩, ⟨#[]⟩, [], zeroObj⟩
  else if e.op = 6 then ⟨e.op, e.id, e.other, e.node, 0, 0, ⟨#[]⟩, ⟨#[]⟩, [], zeroObj⟩
  else ⟨e.op, e.id, e.other, ⟨#[]⟩, 0, 0, ⟨#[]⟩, ⟨#[]⟩, [], zeroObj⟩
def okE (e : Edit) : Bool :=
  if e.op = 1 then objV e.obj
  else if e.op = 2 then nameF e.id && (decide (0 ≤ min e.x e.y) && decide (max e.x e.y < 1048576))
  else if e.op = 3 then nameF e.id && (nameF e.key && decide (e.val.size ≤ 200))
  else if e.op = 4 then nameF e.id && (decide (0 < e.refs.length) && (decide (e.refs.length ≤ 2000) && e.refs.all nameF))
  else if e.op = 5 then nameF e.id
  else if e.op = 6 then nameF e.id && (nameF e.node && nameF e.other)
  else nameF e.id && nameF e.other
def editV (e : Edit) : Bool := (decide (1 ≤ e.op) && decide (e.op ≤ 7)) && (okE e && sameE (wantE e) e)
theorem spec_edit (e : Edit) (hf : EditFit e) {s : Nat → Option Blk} {k : Nat → Tk} : Spec prg 19 [.agg (encEdit e)] s k (.bool (editV e)) s k := by
  refine spec_tr prg_mixed tr_edit_Valid (Nat.le_of_ble_eq_true rfl) rfl ?_
  unfold pc_edit_Valid rs_edit_Valid
  obtain ⟨op, id, ot, no, x, y, ke, va, re, ob⟩ := e
  obtain ⟨hf1, hf2, hf3, hf4, hf5, hf6, hf7, hf8⟩ := hf
  dsimp only at hf1 hf2 hf3 hf4 hf5 hf6 hf7 hf8
  have hn1 : ∀ (x : ByteArray) (hx : x.size < 4611686018427387904) (t : Tok) s k, Spec prg 44 [.sl 1 [[.str x]] t] s k (.bool (nameF x)) s k := by
    intro x hx t s k
    have := @spec_names [x] (by simp) (by simpa using hx) s k
    simp only [List.all_cons, List.all_nil, Bool.and_true] at this
    exact Spec.args this (.cons (A.le_no _ _ _) .nil)
  have hn2 : ∀ (x y : ByteArray) (hx : x.size < 4611686018427387904) (hy : y.size < 4611686018427387904) (t : Tok) s k, Spec prg 44 [.sl 1 [[.str x], [.str y]] t] s k (.bool (nameF x && nameF y)) s k := by
    intro x y hx hy t s k
    have := @spec_names [x, y] (by simp) (by simp [hx, hy]) s k
    simp only [List.all_cons, List.all_nil, Bool.and_true] at this
    exact Spec.args this (.cons (A.le_no _ _ _) .nil)
  have hre := fun s k => @spec_names re hf6 hf7 s k
  have hob := fun s k => @spec_obj ob hf8 s k
  simp only [encObj] at hob
  have hsm : ∀ cs s k, A.lel cs (encEdit (wantE ⟨op, id, ot, no, x, y, ke, va, re, ob⟩)) → Spec prg 46 [.agg cs, .agg (encEdit ⟨op, id, ot, no, x, y, ke, va, re, ob⟩)] s k (.bool (sameE (wantE ⟨op, id, ot, no, x, y, ke, va, re, ob⟩) ⟨op, id, ot, no, x, y, ke, va, re, ob⟩)) s k := by
    intro cs s k h
    obtain ⟨b0, b1, b2⟩ : (wantE ⟨op, id, ot, no, x, y, ke, va, re, ob⟩).refs.length < 4611686018427387904 ∧ (wantE ⟨op, id, ot, no, x, y, ke, va, re, ob⟩).obj.refs.length < 4611686018427387904 ∧ (wantE ⟨op, id, ot, no, x, y, ke, va, re, ob⟩).obj.tags.length < 4611686018427387904 := by
      have z : zeroObj.refs.length < 4611686018427387904 ∧ zeroObj.tags.length < 4611686018427387904 := by decide
      have := hf8.refs
      have := hf8.tags
      unfold wantE
      repeat' split
      all_goals refine ⟨by dsimp only [List.length_nil]; omega, by dsimp only; omega, by dsimp only; omega⟩
    exact Spec.args (spec_sameE _ _ b0 b1 b2) (.cons (A.le_agg h) (.cons (A.le_refl _) .nil))
  simp only [encEdit] at hsm
  simp only [sZ, initT, optI, splice, reduceIte, reduceCtorEq, Nat.reduceEqDiff, Nat.reduceAdd, Nat.reduceSub, Nat.reduceMul, Nat.reduceLeDiff, Nat.reduceLT, Int.reduceLT, Int.reduceLE, Int.reduceToNat, Int.reduceEq, Int.cast_ofNat_Int, encEdit]
  (with_reducible refine newS_in ?_); intro b1 f1; simp only [upd_none] at f1
  simp only [sZ, initT, optI, splice, reduceIte, reduceCtorEq, Nat.reduceEqDiff, Nat.reduceAdd, Nat.reduceSub, Nat.reduceMul, Nat.reduceLeDiff, Nat.reduceLT, Int.reduceLT, Int.reduceLE, Int.reduceToNat, Int.reduceEq, Int.cast_ofNat_Int, f1]
  (with_reducible refine newS_in ?_); intro b3 f3; simp only [upd_none] at f3
  simp only [sZ, initT, optI, splice, reduceIte, reduceCtorEq, Nat.reduceEqDiff, Nat.reduceAdd, Nat.reduceSub, Nat.reduceMul, Nat.reduceLeDiff, Nat.reduceLT, Int.reduceLT, Int.reduceLE, Int.reduceToNat, Int.reduceEq, Int.cast_ofNat_Int, f1, f3]
  refine callS_quiet (hn1 id hf1 _ _ _) ?_
  simp only [sZ, initT, optI, splice, reduceIte, reduceCtorEq, Nat.reduceEqDiff, Nat.reduceAdd, Nat.reduceSub, Nat.reduceMul, Nat.reduceLeDiff, Nat.reduceLT, Int.reduceLT, Int.reduceLE, Int.reduceToNat, Int.reduceEq, Int.cast_ofNat_Int, f1, f3]
  have d2000 : decide ((re.length : Int) ≤ 2000) = decide (re.length ≤ 2000) := by simp; omega
  have d0 : decide ((0 : Int) < (re.length : Int)) = decide (0 < re.length) := by simp
  have d200 : decide ((va.size : Int) ≤ 200) = decide (va.size ≤ 200) := by simp; omega
  by_cases c1 : op = 1
  · subst c1
    have hE : wantE ⟨1, id, ot, no, x, y, ke, va, re, ob⟩ = ⟨1, ⟨#[]⟩, ⟨#[]⟩, ⟨#[]⟩, 0, 0, ⟨#[]⟩, ⟨#[]⟩, [], ob⟩ := rfl
    have ho : editV ⟨1, id, ot, no, x, y, ke, va, re, ob⟩ = (objV ob && sameE (⟨1, ⟨#[]⟩, ⟨#[]⟩, ⟨#[]⟩, 0, 0, ⟨#[]⟩, ⟨#[]⟩, [], ob⟩ : Edit) ⟨1, id, ot, no, x, y, ke, va, re, ob⟩) := rfl
    rw [hE] at hsm
    generalize hsv : sameE (⟨1, ⟨#[]⟩, ⟨#[]⟩, ⟨#[]⟩, 0, 0, ⟨#[]⟩, ⟨#[]⟩, [], ob⟩ : Edit) ⟨1, id, ot, no, x, y, ke, va, re, ob⟩ = sv at ho hsm
    have hsm' := fun cs s k h => hsm cs s k h
    clear hsm
    have fin : ∀ cs (h : A.lel cs _), True := fun cs (h : A.lel cs (encEdit ⟨1, ⟨#[]⟩, ⟨#[]⟩, ⟨#[]⟩, 0, 0, ⟨#[]⟩, ⟨#[]⟩, [], ob⟩)) => trivial
    clear hE hsv fin
    simp only [sZ, initT, optI, splice, reduceIte, reduceCtorEq, Nat.reduceEqDiff, Nat.reduceAdd, Nat.reduceSub, Nat.reduceMul, Nat.reduceLeDiff, Nat.reduceLT, Int.reduceLT, Int.reduceLE, Int.reduceToNat, Int.reduceEq, Int.cast_ofNat_Int, decide_true, decide_false]
    repeat' (first | (refine callQS_quiet (hob _ _) ?_) | (first | (with_reducible refine newS_in ?_; intro _ hid_; simp only [upd_none] at hid_) | (with_reducible refine newR_in ?_; intro _ hid_ hih_; simp only [upd_none, upd_none', rr_eqs2, and_true] at hid_ hih_) | (with_reducible refine mkmS_in ?_; intro _ hid_; simp only [upd_none] at hid_)) | (with_reducible refine brC_in (fun h_ => ?_) (fun h_ => ?_)) | (with_reducible refine brG_in (fun h_ => ?_) (fun h_ => ?_)) | (with_reducible refine brN_in (fun h_ => ?_) (fun h_ => ?_)) | simp only [sZ, initT, optI, splice, reduceIte, reduceCtorEq, Nat.reduceEqDiff, Nat.reduceAdd, Nat.reduceSub, Nat.reduceMul, Nat.reduceLeDiff, Nat.reduceLT, Int.reduceLT, Int.reduceLE, Int.reduceToNat, Int.reduceEq, Int.cast_ofNat_Int, *, decide_true, decide_false, -ho, -hsm', -hn1, -hn2, -hre, -hob, -hf1, -hf2, -hf3, -hf4, -hf5, -hf6, -hf7, -hf8])
    all_goals try (refine callS_quiet (hsm' _ _ _ (by repeat (first | exact A.lel.nil | refine A.lel.cons (by first | exact A.le_refl _ | exact A.le_empty _ _ _ | exact A.le_no _ _ _) ?_))) ?_; simp only [sZ, initT, optI, splice, reduceIte, reduceCtorEq, Nat.reduceEqDiff, Nat.reduceAdd, Nat.reduceSub, Nat.reduceMul, Nat.reduceLeDiff, Nat.reduceLT, Int.reduceLT, Int.reduceLE, Int.reduceToNat, Int.reduceEq, Int.cast_ofNat_Int, decide_true])
    all_goals
      refine OutQ.eq (by repeat (first | exact SExt.refl _ | (refine SExt.old ?_ (by first | (simp only [*]; done) | (simp only [upd_none]; assumption) | (simp only [upd_none, *, not_false_eq_true, and_self]; done)) _))) ?_
      rw [ho]
      clear ho hsm'
      simp_all only [Bool.not_eq_true', Bool.not_eq_false', Bool.not_not, Bool.not_true, Bool.not_false, Bool.and_true, Bool.true_and, Bool.and_false, Bool.false_and, Bool.or_true, Bool.true_or, Bool.or_false, Bool.false_or]
  by_cases c2 : op = 2
  · subst c2
    have hE : wantE ⟨2, id, ot, no, x, y, ke, va, re, ob⟩ = ⟨2, id, ⟨#[]⟩, ⟨#[]⟩, x, y, ⟨#[]⟩, ⟨#[]⟩, [], zeroObj⟩ := rfl
    have ho : editV ⟨2, id, ot, no, x, y, ke, va, re, ob⟩ = ((nameF id && (decide (0 ≤ min x y) && decide (max x y < 1048576))) && sameE (⟨2, id, ⟨#[]⟩, ⟨#[]⟩, x, y, ⟨#[]⟩, ⟨#[]⟩, [], zeroObj⟩ : Edit) ⟨2, id, ot, no, x, y, ke, va, re, ob⟩) := rfl
    rw [hE] at hsm
    generalize hsv : sameE (⟨2, id, ⟨#[]⟩, ⟨#[]⟩, x, y, ⟨#[]⟩, ⟨#[]⟩, [], zeroObj⟩ : Edit) ⟨2, id, ot, no, x, y, ke, va, re, ob⟩ = sv at ho hsm
    have hsm' := fun cs s k h => hsm cs s k h
    clear hsm
    have fin : ∀ cs (h : A.lel cs _), True := fun cs (h : A.lel cs (encEdit ⟨2, id, ⟨#[]⟩, ⟨#[]⟩, x, y, ⟨#[]⟩, ⟨#[]⟩, [], zeroObj⟩)) => trivial
    clear hE hsv fin
    simp only [sZ, initT, optI, splice, reduceIte, reduceCtorEq, Nat.reduceEqDiff, Nat.reduceAdd, Nat.reduceSub, Nat.reduceMul, Nat.reduceLeDiff, Nat.reduceLT, Int.reduceLT, Int.reduceLE, Int.reduceToNat, Int.reduceEq, Int.cast_ofNat_Int, decide_true, decide_false]
    repeat' (first | (first | (with_reducible refine newS_in ?_; intro _ hid_; simp only [upd_none] at hid_) | (with_reducible refine newR_in ?_; intro _ hid_ hih_; simp only [upd_none, upd_none', rr_eqs2, and_true] at hid_ hih_) | (with_reducible refine mkmS_in ?_; intro _ hid_; simp only [upd_none] at hid_)) | (with_reducible refine brC_in (fun h_ => ?_) (fun h_ => ?_)) | (with_reducible refine brG_in (fun h_ => ?_) (fun h_ => ?_)) | (with_reducible refine brN_in (fun h_ => ?_) (fun h_ => ?_)) | simp only [sZ, initT, optI, splice, reduceIte, reduceCtorEq, Nat.reduceEqDiff, Nat.reduceAdd, Nat.reduceSub, Nat.reduceMul, Nat.reduceLeDiff, Nat.reduceLT, Int.reduceLT, Int.reduceLE, Int.reduceToNat, Int.reduceEq, Int.cast_ofNat_Int, *, decide_true, decide_false, -ho, -hsm', -hn1, -hn2, -hre, -hob, -hf1, -hf2, -hf3, -hf4, -hf5, -hf6, -hf7, -hf8])
    all_goals try (refine callS_quiet (hsm' _ _ _ (by repeat (first | exact A.lel.nil | refine A.lel.cons (by first | exact A.le_refl _ | exact A.le_empty _ _ _ | exact A.le_no _ _ _) ?_))) ?_; simp only [sZ, initT, optI, splice, reduceIte, reduceCtorEq, Nat.reduceEqDiff, Nat.reduceAdd, Nat.reduceSub, Nat.reduceMul, Nat.reduceLeDiff, Nat.reduceLT, Int.reduceLT, Int.reduceLE, Int.reduceToNat, Int.reduceEq, Int.cast_ofNat_Int, decide_true])
    all_goals
      refine OutQ.eq (by repeat (first | exact SExt.refl _ | (refine SExt.old ?_ (by first | (simp only [*]; done) | (simp only [upd_none]; assumption) | (simp only [upd_none, *, not_false_eq_true, and_self]; done)) _))) ?_
      rw [ho]
      clear ho hsm'
      simp_all only [Bool.not_eq_true', Bool.not_eq_false', Bool.not_not, Bool.not_true, Bool.not_false, Bool.and_true, Bool.true_and, Bool.and_false, Bool.false_and, Bool.or_true, Bool.true_or, Bool.or_false, Bool.false_or]
  by_cases c3 : op = 3
  · subst c3
    have hE : wantE ⟨3, id, ot, no, x, y, ke, va, re, ob⟩ = ⟨3, id, ⟨#[]⟩, ⟨#[]⟩, 0, 0, ke, va, [], zeroObj⟩ := rfl
    have ho : editV ⟨3, id, ot, no, x, y, ke, va, re, ob⟩ = ((nameF id && (nameF ke && decide (va.size ≤ 200))) && sameE (⟨3, id, ⟨#[]⟩, ⟨#[]⟩, 0, 0, ke, va, [], zeroObj⟩ : Edit) ⟨3, id, ot, no, x, y, ke, va, re, ob⟩) := rfl
    rw [hE] at hsm
    generalize hsv : sameE (⟨3, id, ⟨#[]⟩, ⟨#[]⟩, 0, 0, ke, va, [], zeroObj⟩ : Edit) ⟨3, id, ot, no, x, y, ke, va, re, ob⟩ = sv at ho hsm
    have hsm' := fun cs s k h => hsm cs s k h
    clear hsm
    have fin : ∀ cs (h : A.lel cs _), True := fun cs (h : A.lel cs (encEdit ⟨3, id, ⟨#[]⟩, ⟨#[]⟩, 0, 0, ke, va, [], zeroObj⟩)) => trivial
    clear hE hsv fin
    simp only [sZ, initT, optI, splice, reduceIte, reduceCtorEq, Nat.reduceEqDiff, Nat.reduceAdd, Nat.reduceSub, Nat.reduceMul, Nat.reduceLeDiff, Nat.reduceLT, Int.reduceLT, Int.reduceLE, Int.reduceToNat, Int.reduceEq, Int.cast_ofNat_Int, decide_true, decide_false]
    repeat' (first | (refine callQS_quiet (hn1 ke hf4 _ _ _) ?_) | (first | (with_reducible refine newS_in ?_; intro _ hid_; simp only [upd_none] at hid_) | (with_reducible refine newR_in ?_; intro _ hid_ hih_; simp only [upd_none, upd_none', rr_eqs2, and_true] at hid_ hih_) | (with_reducible refine mkmS_in ?_; intro _ hid_; simp only [upd_none] at hid_)) | (with_reducible refine brC_in (fun h_ => ?_) (fun h_ => ?_)) | (with_reducible refine brG_in (fun h_ => ?_) (fun h_ => ?_)) | (with_reducible refine brN_in (fun h_ => ?_) (fun h_ => ?_)) | simp only [sZ, initT, optI, splice, reduceIte, reduceCtorEq, Nat.reduceEqDiff, Nat.reduceAdd, Nat.reduceSub, Nat.reduceMul, Nat.reduceLeDiff, Nat.reduceLT, Int.reduceLT, Int.reduceLE, Int.reduceToNat, Int.reduceEq, Int.cast_ofNat_Int, *, decide_true, decide_false, -ho, -hsm', -hn1, -hn2, -hre, -hob, -hf1, -hf2, -hf3, -hf4, -hf5, -hf6, -hf7, -hf8])
    all_goals try (refine callS_quiet (hsm' _ _ _ (by repeat (first | exact A.lel.nil | refine A.lel.cons (by first | exact A.le_refl _ | exact A.le_empty _ _ _ | exact A.le_no _ _ _) ?_))) ?_; simp only [sZ, initT, optI, splice, reduceIte, reduceCtorEq, Nat.reduceEqDiff, Nat.reduceAdd, Nat.reduceSub, Nat.reduceMul, Nat.reduceLeDiff, Nat.reduceLT, Int.reduceLT, Int.reduceLE, Int.reduceToNat, Int.reduceEq, Int.cast_ofNat_Int, decide_true])
    all_goals
      refine OutQ.eq (by repeat (first | exact SExt.refl _ | (refine SExt.old ?_ (by first | (simp only [*]; done) | (simp only [upd_none]; assumption) | (simp only [upd_none, *, not_false_eq_true, and_self]; done)) _))) ?_
      rw [ho]
      clear ho hsm'
      simp_all only [Bool.not_eq_true', Bool.not_eq_false', Bool.not_not, Bool.not_true, Bool.not_false, Bool.and_true, Bool.true_and, Bool.and_false, Bool.false_and, Bool.or_true, Bool.true_or, Bool.or_false, Bool.false_or]
  by_cases c4 : op = 4
  · subst c4
    have hE : wantE ⟨4, id, ot, no, x, y, ke, va, re, ob⟩ = ⟨4, id, ⟨#[]⟩, ⟨#[]⟩, 0, 0, ⟨#[]⟩, ⟨#[]⟩, re, zeroObj⟩ := rfl
    have ho : editV ⟨4, id, ot, no, x, y, ke, va, re, ob⟩ = ((nameF id && (decide (0 < re.length) && (decide (re.length ≤ 2000) && re.all nameF))) && sameE (⟨4, id, ⟨#[]⟩, ⟨#[]⟩, 0, 0, ⟨#[]⟩, ⟨#[]⟩, re, zeroObj⟩ : Edit) ⟨4, id, ot, no, x, y, ke, va, re, ob⟩) := rfl
    rw [hE] at hsm
    generalize hsv : sameE (⟨4, id, ⟨#[]⟩, ⟨#[]⟩, 0, 0, ⟨#[]⟩, ⟨#[]⟩, re, zeroObj⟩ : Edit) ⟨4, id, ot, no, x, y, ke, va, re, ob⟩ = sv at ho hsm
    have hsm' := fun cs s k h => hsm cs s k h
    clear hsm
    have fin : ∀ cs (h : A.lel cs _), True := fun cs (h : A.lel cs (encEdit ⟨4, id, ⟨#[]⟩, ⟨#[]⟩, 0, 0, ⟨#[]⟩, ⟨#[]⟩, re, zeroObj⟩)) => trivial
    clear hE hsv fin
    simp only [sZ, initT, optI, splice, reduceIte, reduceCtorEq, Nat.reduceEqDiff, Nat.reduceAdd, Nat.reduceSub, Nat.reduceMul, Nat.reduceLeDiff, Nat.reduceLT, Int.reduceLT, Int.reduceLE, Int.reduceToNat, Int.reduceEq, Int.cast_ofNat_Int, decide_true, decide_false]
    repeat' (first | (refine callQS_quiet (hre _ _) ?_) | (first | (with_reducible refine newS_in ?_; intro _ hid_; simp only [upd_none] at hid_) | (with_reducible refine newR_in ?_; intro _ hid_ hih_; simp only [upd_none, upd_none', rr_eqs2, and_true] at hid_ hih_) | (with_reducible refine mkmS_in ?_; intro _ hid_; simp only [upd_none] at hid_)) | (with_reducible refine brC_in (fun h_ => ?_) (fun h_ => ?_)) | (with_reducible refine brG_in (fun h_ => ?_) (fun h_ => ?_)) | (with_reducible refine brN_in (fun h_ => ?_) (fun h_ => ?_)) | simp only [sZ, initT, optI, splice, reduceIte, reduceCtorEq, Nat.reduceEqDiff, Nat.reduceAdd, Nat.reduceSub, Nat.reduceMul, Nat.reduceLeDiff, Nat.reduceLT, Int.reduceLT, Int.reduceLE, Int.reduceToNat, Int.reduceEq, Int.cast_ofNat_Int, *, decide_true, decide_false, -ho, -hsm', -hn1, -hn2, -hre, -hob, -hf1, -hf2, -hf3, -hf4, -hf5, -hf6, -hf7, -hf8])
    all_goals try (refine callS_quiet (hsm' _ _ _ (by repeat (first | exact A.lel.nil | refine A.lel.cons (by first | exact A.le_refl _ | exact A.le_empty _ _ _ | exact A.le_no _ _ _) ?_))) ?_; simp only [sZ, initT, optI, splice, reduceIte, reduceCtorEq, Nat.reduceEqDiff, Nat.reduceAdd, Nat.reduceSub, Nat.reduceMul, Nat.reduceLeDiff, Nat.reduceLT, Int.reduceLT, Int.reduceLE, Int.reduceToNat, Int.reduceEq, Int.cast_ofNat_Int, decide_true])
    all_goals
      refine OutQ.eq (by repeat (first | exact SExt.refl _ | (refine SExt.old ?_ (by first | (simp only [*]; done) | (simp only [upd_none]; assumption) | (simp only [upd_none, *, not_false_eq_true, and_self]; done)) _))) ?_
      rw [ho]
      clear ho hsm'
      simp_all only [Bool.not_eq_true', Bool.not_eq_false', Bool.not_not, Bool.not_true, Bool.not_false, Bool.and_true, Bool.true_and, Bool.and_false, Bool.false_and, Bool.or_true, Bool.true_or, Bool.or_false, Bool.false_or]
  by_cases c5 : op = 5
  · subst c5
    have hE : wantE ⟨5, id, ot, no, x, y, ke, va, re, ob⟩ = ⟨5, id, ⟨#[]⟩, ⟨#[]⟩, 0, 0, ⟨#[]⟩, ⟨#[]⟩, [], zeroObj⟩ := rfl
    have ho : editV ⟨5, id, ot, no, x, y, ke, va, re, ob⟩ = (nameF id && sameE (⟨5, id, ⟨#[]⟩, ⟨#[]⟩, 0, 0, ⟨#[]⟩, ⟨#[]⟩, [], zeroObj⟩ : Edit) ⟨5, id, ot, no, x, y, ke, va, re, ob⟩) := rfl
    rw [hE] at hsm
    generalize hsv : sameE (⟨5, id, ⟨#[]⟩, ⟨#[]⟩, 0, 0, ⟨#[]⟩, ⟨#[]⟩, [], zeroObj⟩ : Edit) ⟨5, id, ot, no, x, y, ke, va, re, ob⟩ = sv at ho hsm
    have hsm' := fun cs s k h => hsm cs s k h
    clear hsm
    have fin : ∀ cs (h : A.lel cs _), True := fun cs (h : A.lel cs (encEdit ⟨5, id, ⟨#[]⟩, ⟨#[]⟩, 0, 0, ⟨#[]⟩, ⟨#[]⟩, [], zeroObj⟩)) => trivial
    clear hE hsv fin
    simp only [sZ, initT, optI, splice, reduceIte, reduceCtorEq, Nat.reduceEqDiff, Nat.reduceAdd, Nat.reduceSub, Nat.reduceMul, Nat.reduceLeDiff, Nat.reduceLT, Int.reduceLT, Int.reduceLE, Int.reduceToNat, Int.reduceEq, Int.cast_ofNat_Int, decide_true, decide_false]
    repeat' (first | (first | (with_reducible refine newS_in ?_; intro _ hid_; simp only [upd_none] at hid_) | (with_reducible refine newR_in ?_; intro _ hid_ hih_; simp only [upd_none, upd_none', rr_eqs2, and_true] at hid_ hih_) | (with_reducible refine mkmS_in ?_; intro _ hid_; simp only [upd_none] at hid_)) | (with_reducible refine brC_in (fun h_ => ?_) (fun h_ => ?_)) | (with_reducible refine brG_in (fun h_ => ?_) (fun h_ => ?_)) | (with_reducible refine brN_in (fun h_ => ?_) (fun h_ => ?_)) | simp only [sZ, initT, optI, splice, reduceIte, reduceCtorEq, Nat.reduceEqDiff, Nat.reduceAdd, Nat.reduceSub, Nat.reduceMul, Nat.reduceLeDiff, Nat.reduceLT, Int.reduceLT, Int.reduceLE, Int.reduceToNat, Int.reduceEq, Int.cast_ofNat_Int, *, decide_true, decide_false, -ho, -hsm', -hn1, -hn2, -hre, -hob, -hf1, -hf2, -hf3, -hf4, -hf5, -hf6, -hf7, -hf8])
    all_goals try (refine callS_quiet (hsm' _ _ _ (by repeat (first | exact A.lel.nil | refine A.lel.cons (by first | exact A.le_refl _ | exact A.le_empty _ _ _ | exact A.le_no _ _ _) ?_))) ?_; simp only [sZ, initT, optI, splice, reduceIte, reduceCtorEq, Nat.reduceEqDiff, Nat.reduceAdd, Nat.reduceSub, Nat.reduceMul, Nat.reduceLeDiff, Nat.reduceLT, Int.reduceLT, Int.reduceLE, Int.reduceToNat, Int.reduceEq, Int.cast_ofNat_Int, decide_true])
    all_goals
      refine OutQ.eq (by repeat (first | exact SExt.refl _ | (refine SExt.old ?_ (by first | (simp only [*]; done) | (simp only [upd_none]; assumption) | (simp only [upd_none, *, not_false_eq_true, and_self]; done)) _))) ?_
      rw [ho]
      clear ho hsm'
      simp_all only [Bool.not_eq_true', Bool.not_eq_false', Bool.not_not, Bool.not_true, Bool.not_false, Bool.and_true, Bool.true_and, Bool.and_false, Bool.false_and, Bool.or_true, Bool.true_or, Bool.or_false, Bool.false_or]
  by_cases c6 : op = 6
  · subst c6
    have hE : wantE ⟨6, id, ot, no, x, y, ke, va, re, ob⟩ = ⟨6, id, ot, no, 0, 0, ⟨#[]⟩, ⟨#[]⟩, [], zeroObj⟩ := rfl
    have ho : editV ⟨6, id, ot, no, x, y, ke, va, re, ob⟩ = ((nameF id && (nameF no && nameF ot)) && sameE (⟨6, id, ot, no, 0, 0, ⟨#[]⟩, ⟨#[]⟩, [], zeroObj⟩ : Edit) ⟨6, id, ot, no, x, y, ke, va, re, ob⟩) := rfl
    rw [hE] at hsm
    generalize hsv : sameE (⟨6, id, ot, no, 0, 0, ⟨#[]⟩, ⟨#[]⟩, [], zeroObj⟩ : Edit) ⟨6, id, ot, no, x, y, ke, va, re, ob⟩ = sv at ho hsm
    have hsm' := fun cs s k h => hsm cs s k h
    clear hsm
    have fin : ∀ cs (h : A.lel cs _), True := fun cs (h : A.lel cs (encEdit ⟨6, id, ot, no, 0, 0, ⟨#[]⟩, ⟨#[]⟩, [], zeroObj⟩)) => trivial
    clear hE hsv fin
    simp only [sZ, initT, optI, splice, reduceIte, reduceCtorEq, Nat.reduceEqDiff, Nat.reduceAdd, Nat.reduceSub, Nat.reduceMul, Nat.reduceLeDiff, Nat.reduceLT, Int.reduceLT, Int.reduceLE, Int.reduceToNat, Int.reduceEq, Int.cast_ofNat_Int, decide_true, decide_false]
    repeat' (first | (refine callQS_quiet (hn2 no ot hf3 hf2 _ _ _) ?_) | (first | (with_reducible refine newS_in ?_; intro _ hid_; simp only [upd_none] at hid_) | (with_reducible refine newR_in ?_; intro _ hid_ hih_; simp only [upd_none, upd_none', rr_eqs2, and_true] at hid_ hih_) | (with_reducible refine mkmS_in ?_; intro _ hid_; simp only [upd_none] at hid_)) | (with_reducible refine brC_in (fun h_ => ?_) (fun h_ => ?_)) | (with_reducible refine brG_in (fun h_ => ?_) (fun h_ => ?_)) | (with_reducible refine brN_in (fun h_ => ?_) (fun h_ => ?_)) | simp only [sZ, initT, optI, splice, reduceIte, reduceCtorEq, Nat.reduceEqDiff, Nat.reduceAdd, Nat.reduceSub, Nat.reduceMul, Nat.reduceLeDiff, Nat.reduceLT, Int.reduceLT, Int.reduceLE, Int.reduceToNat, Int.reduceEq, Int.cast_ofNat_Int, *, decide_true, decide_false, -ho, -hsm', -hn1, -hn2, -hre, -hob, -hf1, -hf2, -hf3, -hf4, -hf5, -hf6, -hf7, -hf8])
    all_goals try (refine callS_quiet (hsm' _ _ _ (by repeat (first | exact A.lel.nil | refine A.lel.cons (by first | exact A.le_refl _ | exact A.le_empty _ _ _ | exact A.le_no _ _ _) ?_))) ?_; simp only [sZ, initT, optI, splice, reduceIte, reduceCtorEq, Nat.reduceEqDiff, Nat.reduceAdd, Nat.reduceSub, Nat.reduceMul, Nat.reduceLeDiff, Nat.reduceLT, Int.reduceLT, Int.reduceLE, Int.reduceToNat, Int.reduceEq, Int.cast_ofNat_Int, decide_true])
    all_goals
      refine OutQ.eq (by repeat (first | exact SExt.refl _ | (refine SExt.old ?_ (by first | (simp only [*]; done) | (simp only [upd_none]; assumption) | (simp only [upd_none, *, not_false_eq_true, and_self]; done)) _))) ?_
      rw [ho]
      clear ho hsm'
      simp_all only [Bool.not_eq_true', Bool.not_eq_false', Bool.not_not, Bool.not_true, Bool.not_false, Bool.and_true, Bool.true_and, Bool.and_false, Bool.false_and, Bool.or_true, Bool.true_or, Bool.or_false, Bool.false_or]
  by_cases c7 : op = 7
  · subst c7
    have hE : wantE ⟨7, id, ot, no, x, y, ke, va, re, ob⟩ = ⟨7, id, ot, ⟨#[]⟩, 0, 0, ⟨#[]⟩, ⟨#[]⟩, [], zeroObj⟩ := rfl
    have ho : editV ⟨7, id, ot, no, x, y, ke, va, re, ob⟩ = ((nameF id && nameF ot) && sameE (⟨7, id, ot, ⟨#[]⟩, 0, 0, ⟨#[]⟩, ⟨#[]⟩, [], zeroObj⟩ : Edit) ⟨7, id, ot, no, x, y, ke, va, re, ob⟩) := rfl
    rw [hE] at hsm
    generalize hsv : sameE (⟨7, id, ot, ⟨#[]⟩, 0, 0, ⟨#[]⟩, ⟨#[]⟩, [], zeroObj⟩ : Edit) ⟨7, id, ot, no, x, y, ke, va, re, ob⟩ = sv at ho hsm
    have hsm' := fun cs s k h => hsm cs s k h
    clear hsm
    have fin : ∀ cs (h : A.lel cs _), True := fun cs (h : A.lel cs (encEdit ⟨7, id, ot, ⟨#[]⟩, 0, 0, ⟨#[]⟩, ⟨#[]⟩, [], zeroObj⟩)) => trivial
    clear hE hsv fin
    simp only [sZ, initT, optI, splice, reduceIte, reduceCtorEq, Nat.reduceEqDiff, Nat.reduceAdd, Nat.reduceSub, Nat.reduceMul, Nat.reduceLeDiff, Nat.reduceLT, Int.reduceLT, Int.reduceLE, Int.reduceToNat, Int.reduceEq, Int.cast_ofNat_Int, decide_true, decide_false]
    repeat' (first | (refine callQS_quiet (hn1 ot hf2 _ _ _) ?_) | (first | (with_reducible refine newS_in ?_; intro _ hid_; simp only [upd_none] at hid_) | (with_reducible refine newR_in ?_; intro _ hid_ hih_; simp only [upd_none, upd_none', rr_eqs2, and_true] at hid_ hih_) | (with_reducible refine mkmS_in ?_; intro _ hid_; simp only [upd_none] at hid_)) | (with_reducible refine brC_in (fun h_ => ?_) (fun h_ => ?_)) | (with_reducible refine brG_in (fun h_ => ?_) (fun h_ => ?_)) | (with_reducible refine brN_in (fun h_ => ?_) (fun h_ => ?_)) | simp only [sZ, initT, optI, splice, reduceIte, reduceCtorEq, Nat.reduceEqDiff, Nat.reduceAdd, Nat.reduceSub, Nat.reduceMul, Nat.reduceLeDiff, Nat.reduceLT, Int.reduceLT, Int.reduceLE, Int.reduceToNat, Int.reduceEq, Int.cast_ofNat_Int, *, decide_true, decide_false, -ho, -hsm', -hn1, -hn2, -hre, -hob, -hf1, -hf2, -hf3, -hf4, -hf5, -hf6, -hf7, -hf8])
    all_goals try (refine callS_quiet (hsm' _ _ _ (by repeat (first | exact A.lel.nil | refine A.lel.cons (by first | exact A.le_refl _ | exact A.le_empty _ _ _ | exact A.le_no _ _ _) ?_))) ?_; simp only [sZ, initT, optI, splice, reduceIte, reduceCtorEq, Nat.reduceEqDiff, Nat.reduceAdd, Nat.reduceSub, Nat.reduceMul, Nat.reduceLeDiff, Nat.reduceLT, Int.reduceLT, Int.reduceLE, Int.reduceToNat, Int.reduceEq, Int.cast_ofNat_Int, decide_true])
    all_goals
      refine OutQ.eq (by repeat (first | exact SExt.refl _ | (refine SExt.old ?_ (by first | (simp only [*]; done) | (simp only [upd_none]; assumption) | (simp only [upd_none, *, not_false_eq_true, and_self]; done)) _))) ?_
      rw [ho]
      clear ho hsm'
      simp_all only [Bool.not_eq_true', Bool.not_eq_false', Bool.not_not, Bool.not_true, Bool.not_false, Bool.and_true, Bool.true_and, Bool.and_false, Bool.false_and, Bool.or_true, Bool.true_or, Bool.or_false, Bool.false_or]
  have ho : editV ⟨op, id, ot, no, x, y, ke, va, re, ob⟩ = false := by
    have : (decide (1 ≤ op) && decide (op ≤ 7)) = false := by
      rw [Bool.and_eq_false_iff]
      simp only [decide_eq_false_iff_not]
      omega
    unfold editV
    rw [this]
    rfl
  rw [ho]
  clear hsm hn1 hn2 hre hob hf1 hf2 hf3 hf4 hf5 hf6 hf7 hf8 ho d0 d200 d2000
  simp only [sZ, initT, optI, splice, reduceIte, reduceCtorEq, Nat.reduceEqDiff, Nat.reduceAdd, Nat.reduceSub, Nat.reduceMul, Nat.reduceLeDiff, Nat.reduceLT, Int.reduceLT, Int.reduceLE, Int.reduceToNat, Int.reduceEq, Int.cast_ofNat_Int, c1, c2, c3, c4, c5, c6, c7, decide_false]
  repeat' (first | (first | (with_reducible refine newS_in ?_; intro _ hid_; simp only [upd_none] at hid_) | (with_reducible refine newR_in ?_; intro _ hid_ hih_; simp only [upd_none, upd_none', rr_eqs2, and_true] at hid_ hih_) | (with_reducible refine mkmS_in ?_; intro _ hid_; simp only [upd_none] at hid_)) | (with_reducible refine brC_in (fun h_ => ?_) (fun h_ => ?_)) | (with_reducible refine brG_in (fun h_ => ?_) (fun h_ => ?_)) | (with_reducible refine brN_in (fun h_ => ?_) (fun h_ => ?_)) | simp only [sZ, initT, optI, splice, reduceIte, reduceCtorEq, Nat.reduceEqDiff, Nat.reduceAdd, Nat.reduceSub, Nat.reduceMul, Nat.reduceLeDiff, Nat.reduceLT, Int.reduceLT, Int.reduceLE, Int.reduceToNat, Int.reduceEq, Int.cast_ofNat_Int, *, c1, c2, c3, c4, c5, c6, c7, decide_false])
  all_goals refine OutQ.eq (by repeat (first | exact SExt.refl _ | (refine SExt.old ?_ (by first | (simp only [*]; done) | (simp only [upd_none]; assumption) | (simp only [upd_none, *, not_false_eq_true, and_self]; done)) _))) rfl
def changeV (l : List Edit) : Bool := decide (0 < l.length) && (decide (l.length ≤ 200) && l.all editV)
theorem spec_change_1 (e : Edit) (hf : EditFit e) {s : Nat → Option Blk} {k : Nat → Tk} : Spec prg 41 [.agg (encEdit e)] s k (.bool (!editV e)) s k := by
  refine spec_tr prg_mixed tr_change_Valid_1 (Nat.le_of_ble_eq_true rfl) rfl ?_
  unfold pc_change_Valid_1 rs_change_Valid_1
  have h := fun s k => @spec_edit e hf s k
  simp only [sZ, initT, optI, splice, reduceIte, reduceCtorEq, Nat.reduceEqDiff, Nat.reduceAdd, Nat.reduceSub, Nat.reduceMul, Nat.reduceLeDiff, Nat.reduceLT, Int.reduceLT, Int.reduceLE, Int.reduceToNat, Int.reduceEq, Int.cast_ofNat_Int, len_encEdit, wh_encEdit, st_encEdit]
  (with_reducible refine newS_in ?_); intro b1 f1; simp only [upd_none] at f1
  repeat' (first | (refine callS_quiet (h _ _) ?_) | (first | (with_reducible refine newS_in ?_; intro _ hid_; simp only [upd_none] at hid_) | (with_reducible refine newR_in ?_; intro _ hid_ hih_; simp only [upd_none, upd_none', rr_eqs2, and_true] at hid_ hih_) | (with_reducible refine mkmS_in ?_; intro _ hid_; simp only [upd_none] at hid_)) | (with_reducible refine brC_in (fun h_ => ?_) (fun h_ => ?_)) | (with_reducible refine brG_in (fun h_ => ?_) (fun h_ => ?_)) | (with_reducible refine brN_in (fun h_ => ?_) (fun h_ => ?_)) | simp only [sZ, initT, optI, splice, reduceIte, reduceCtorEq, Nat.reduceEqDiff, Nat.reduceAdd, Nat.reduceSub, Nat.reduceMul, Nat.reduceLeDiff, Nat.reduceLT, Int.reduceLT, Int.reduceLE, Int.reduceToNat, Int.reduceEq, Int.cast_ofNat_Int, *, len_encEdit, wh_encEdit, st_encEdit, -h, -hf])
  refine OutQ.eq (by repeat (first | exact SExt.refl _ | (refine SExt.old ?_ (by first | (simp only [*]; done) | (simp only [upd_none]; assumption) | (simp only [upd_none, *, not_false_eq_true, and_self]; done)) _))) rfl
theorem spec_change (l : List Edit) (hl : l.length < 4611686018427387904) (hf : ∀ e ∈ l, EditFit e) {s : Nat → Option Blk} {k : Nat → Tk} : Spec prg 16 [.sl 15 (l.map encEdit) .no] s k (.bool (changeV l)) s k := by
  refine spec_tr prg_mixed tr_change_Valid (Nat.le_of_ble_eq_true rfl) rfl ?_
  unfold pc_change_Valid rs_change_Valid
  have d0 : decide ((0 : Int) < (l.length : Int)) = decide (0 < l.length) := by simp
  have d200 : decide ((l.length : Int) ≤ 200) = decide (l.length ≤ 200) := by simp; omega
  have ho : changeV l = (decide (0 < l.length) && (decide (l.length ≤ 200) && l.all editV)) := rfl
  have ha : (!l.any fun e => !editV e) = l.all editV := by rw [List.all_eq_not_any_not]
  repeat' (first | (refine callS_quiet (spec16 l (fun e => !editV e) _ [] hl (fun e he => spec_change_1 e (hf e he))) ?_) | (first | (with_reducible refine newS_in ?_; intro _ hid_; simp only [upd_none] at hid_) | (with_reducible refine newR_in ?_; intro _ hid_ hih_; simp only [upd_none, upd_none', rr_eqs2, and_true] at hid_ hih_) | (with_reducible refine mkmS_in ?_; intro _ hid_; simp only [upd_none] at hid_)) | (with_reducible refine brC_in (fun h_ => ?_) (fun h_ => ?_)) | (with_reducible refine brG_in (fun h_ => ?_) (fun h_ => ?_)) | (with_reducible refine brN_in (fun h_ => ?_) (fun h_ => ?_)) | simp only [sZ, initT, optI, splice, reduceIte, reduceCtorEq, Nat.reduceEqDiff, Nat.reduceAdd, Nat.reduceSub, Nat.reduceMul, Nat.reduceLeDiff, Nat.reduceLT, Int.reduceLT, Int.reduceLE, Int.reduceToNat, Int.reduceEq, Int.cast_ofNat_Int, *, -hl, -hf, -ho, -ha, ha])
  all_goals refine OutQ.eq (by repeat (first | exact SExt.refl _ | (refine SExt.old ?_ (by first | (simp only [*]; done) | (simp only [upd_none]; assumption) | (simp only [upd_none, *, not_false_eq_true, and_self]; done)) _))) ?_
  all_goals rw [ho]
  all_goals clear ho ha hl hf d0 d200
  all_goals simp_all only [Bool.not_eq_true', Bool.not_eq_false', Bool.not_not, Bool.not_true, Bool.not_false, Bool.and_true, Bool.true_and, Bool.and_false, Bool.false_and, Bool.or_true, Bool.true_or, Bool.or_false, Bool.false_or]
end Go.Pv
