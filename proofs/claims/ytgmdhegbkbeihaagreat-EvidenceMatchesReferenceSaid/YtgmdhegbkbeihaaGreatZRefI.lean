/- The reference's closed maps, by depth. -/
import Derived.Test.YtgmdhegbkbeihaaGreatZRefH
set_option linter.unusedVariables false
set_option linter.unusedSimpArgs false
set_option maxRecDepth 4000
set_option maxHeartbeats 4000000
namespace Go.Pv
open Go

def subAt (sub : Obj → Bool) (m : List Obj) (r : ByteArray) : Bool := match m.find? (fun o => decide (o.id = r)) with
  | some p => sub p
  | none => false
def soundW (sub : Obj → Bool) (m : List Obj) (o : Obj) : Bool := (List.range o.refs.length).all fun j => decide (errAt (kindM m []) o.kind o.refs j = 0) && subAt sub m (o.refs.getD j ⟨#[]⟩)
theorem range_all_no {p : Nat → Bool} {n j : Nat} (h : j < n) (hp : p j = false) : (List.range n).all p = false := by
  rw [List.all_eq_false]
  exact ⟨j, List.mem_range.2 h, by rw [hp]; simp⟩
theorem errAt_id {m : List Obj} (hm : mapV m = true) (kind : Int) (refs : List ByteArray) {i : Nat} (hi : i < refs.length) :
    (idxOf (fun o : Obj => decide (o.id = refs[i])) m = -1 ∧ errAt (kindM m []) kind refs i = 14) ∨ ∃ (q : Nat) (hq : q < m.length), idxOf (fun o : Obj => decide (o.id = refs[i])) m = q ∧ m.find? (fun o => decide (o.id = refs[i])) = some m[q] ∧ errAt (kindM m []) kind refs i = cond (!decide (m[q].kind = wantK kind i)) 13 0 := by
  have hgd : refs.getD i ⟨#[]⟩ = refs[i] := by rw [List.getD_eq_getElem?_getD, List.getElem?_eq_getElem hi]; rfl
  have hlk := look_kind refs[i] m [] (map_ids hm)
  unfold errAt lookK
  rw [hgd, hlk]
  rcases idxOf_cases (fun o : Obj => decide (o.id = refs[i])) m with ⟨g1, g2⟩ | ⟨q, hq, g1, g2⟩
  · rw [g2]
    exact .inl ⟨g1, rfl⟩
  · rw [g2]
    exact .inr ⟨q, hq, g1, rfl, rfl⟩
theorem spec_step (m : List Obj) (o : Obj) (hv : mapV m = true) (hl : m.length < 1152921504606846976) (hr : o.refs.length < 4611686018427387904) (sub : Obj → Bool)
    (hsub : ∀ (j : Nat) (q : Nat) (hq : q < m.length), m[q].kind = wantK o.kind j → ∀ s k, Spec prg 70 [.agg (encMap m), .agg (encObj m[q])] s k (.bool (sub m[q])) s k) {s : Nat → Option Blk} {k : Nat → Tk} :
    Spec prg 70 [.agg (encMap m), .agg (encObj o)] s k (.bool (soundW sub m o)) s k := by
  refine spec_tr prg_mixed tr_pref13_Sound (Nat.le_of_ble_eq_true rfl) rfl ?_
  unfold pc_pref13_Sound rs_pref13_Sound
  have hfd := fun i s k => @spec_findB m i hv hl s k
  have hkd := fun i s k => @spec_kind13 o i s k
  have hE : encObj o = [.str o.id, .int .i64 o.kind, .int .i64 o.x, .int .i64 o.y, .sl 1 (o.refs.map encStr) .no, .sl 2 (o.tags.map encTag) .no] := rfl
  have hW : ∀ b, soundW sub m o = b → soundW sub m o = b := fun _ h => h
  obtain ⟨id, kind, x, y, refs, tags⟩ := o
  dsimp only at hr hsub hE hkd
  simp only [encMap] at hfd hsub
  rw [hE] at hkd ⊢
  simp only [sZ, initT, optI, splice, reduceIte, reduceCtorEq, Nat.reduceEqDiff, Nat.reduceAdd, Nat.reduceSub, Nat.reduceMul, Nat.reduceLeDiff, Nat.reduceLT, Int.reduceLT, Int.reduceLE, Int.reduceToNat, Int.reduceEq, Int.cast_ofNat_Int, encMap]
  (with_reducible refine newS_in ?_); intro b2 f2; simp only [upd_none] at f2
  simp only [sZ, initT, optI, splice, reduceIte, reduceCtorEq, Nat.reduceEqDiff, Nat.reduceAdd, Nat.reduceSub, Nat.reduceMul, Nat.reduceLeDiff, Nat.reduceLT, Int.reduceLT, Int.reduceLE, Int.reduceToNat, Int.reduceEq, Int.cast_ofNat_Int, f2]
  (with_reducible refine newS_in ?_); intro b3 f3; simp only [upd_none] at f3
  simp only [sZ, initT, optI, splice, reduceIte, reduceCtorEq, Nat.reduceEqDiff, Nat.reduceAdd, Nat.reduceSub, Nat.reduceMul, Nat.reduceLeDiff, Nat.reduceLT, Int.reduceLT, Int.reduceLE, Int.reduceToNat, Int.reduceEq, Int.cast_ofNat_Int, f2, f3]
  refine loop_L (α := Unit) refs.length (fun j _ => [(2, .ptr b2 0), (3, .ptr b3 0), (5, .int .i64 j)]) (fun j _ => upd (upd s b2 (some (.cells [.sl 6 (m.map encObj) .no]))) b3 (some (.cells [.str id, .int .i64 kind, .int .i64 x, .int .i64 y, .sl 1 (refs.map encStr) .no, .sl 2 (tags.map encTag) .no]))) (fun _ _ => k)
    (fun j _ => ∀ i, i < j → (decide (errAt (kindM m []) kind refs i = 0) && subAt sub m (refs.getD i ⟨#[]⟩)) = true) () (SExt.refl _) rfl (by (try simp only [TabLe_cons, TabLe_nil, tab_cons, tab_nil, upd_apply, Nat.reduceEqDiff, reduceIte, and_true]); repeat' (first | exact trivial | exact A.le_refl _ | exact le_strip_no _ _ _ | exact A.le_no _ _ _ | exact A.le_empty _ _ _ | refine And.intro ?_ ?_)) (fun i h => by omega) ?_
  rintro j ⟨⟩ hj hall
  try dsimp only
  simp only [sZ, initT, optI, splice, reduceIte, reduceCtorEq, Nat.reduceEqDiff, Nat.reduceAdd, Nat.reduceSub, Nat.reduceMul, Nat.reduceLeDiff, Nat.reduceLT, Int.reduceLT, Int.reduceLE, Int.reduceToNat, Int.reduceEq, Int.cast_ofNat_Int, f2, f3]
  refine brC_in (fun hlt => ?_) (fun hge => ?_)
  · have hj' : j < refs.length := by have := of_decide_eq_true hlt; omega
    clear hlt
    have hw := wrap_succ hj' (by omega)
    have hg : (refs.map encStr)[j]? = some (encStr refs[j]) := strE.get hj'
    have hgd : refs.getD j ⟨#[]⟩ = refs[j] := by rw [List.getD_eq_getElem?_getD, List.getElem?_eq_getElem hj']; rfl
    have hno : (decide (errAt (kindM m []) kind refs j = 0) && subAt sub m (refs.getD j ⟨#[]⟩)) = false → soundW sub m ⟨id, kind, x, y, refs, tags⟩ = false := fun h => range_all_no hj' h
    rw [hgd] at hno
    simp only [sZ, initT, optI, splice, reduceIte, reduceCtorEq, Nat.reduceEqDiff, Nat.reduceAdd, Nat.reduceSub, Nat.reduceMul, Nat.reduceLeDiff, Nat.reduceLT, Int.reduceLT, Int.reduceLE, Int.reduceToNat, Int.reduceEq, Int.cast_ofNat_Int, f2, f3, hg, get_str]
    refine callQS_quiet (hfd _ _ _) ?_
    rcases errAt_id hv kind refs hj' with ⟨g1, g2⟩ | ⟨q, hq, g1, g3, g2⟩
    · rw [hno (by rw [g2]; rfl), g1]
      simp only [sZ, initT, optI, splice, reduceIte, reduceCtorEq, Nat.reduceEqDiff, Nat.reduceAdd, Nat.reduceSub, Nat.reduceMul, Nat.reduceLeDiff, Nat.reduceLT, Int.reduceLT, Int.reduceLE, Int.reduceToNat, Int.reduceEq, Int.cast_ofNat_Int, f2, f3]
      refine OutQ.eq (by repeat (first | exact SExt.refl _ | (refine SExt.old ?_ (by first | (simp only [*]; done) | (simp only [upd_none]; assumption) | (simp only [upd_none, *, not_false_eq_true, and_self]; done)) _))) rfl
    · have e1 : decide ((q : Int) < 0) = false := decide_eq_false (by omega)
      have q1 : (0 : Int) ≤ (q : Int) := by omega
      have q2 : (q : Int) < (m.length : Int) := by omega
      have hgq : (m.map encObj)[q]? = some (encObj m[q]) := objE.get hq
      have hkq : (encObj m[q])[1]? = some (.int .i64 m[q].kind) := rfl
      have hsA : subAt sub m refs[j] = sub m[q] := by unfold subAt; rw [g3]
      rw [hsA] at hno
      rw [g1]
      simp only [sZ, initT, optI, splice, reduceIte, reduceCtorEq, Nat.reduceEqDiff, Nat.reduceAdd, Nat.reduceSub, Nat.reduceMul, Nat.reduceLeDiff, Nat.reduceLT, Int.reduceLT, Int.reduceLE, Int.reduceToNat, Int.reduceEq, Int.cast_ofNat_Int, f2, f3, e1, q1, q2, hgq, hkq, Int.toNat_natCast]
      refine callQS_quiet (hkd j _ _) ?_
      cases hd : decide (m[q].kind = wantK kind j)
      · rw [hd] at g2
        rw [hno (by rw [g2]; rfl)]
        simp only [sZ, initT, optI, splice, reduceIte, reduceCtorEq, Nat.reduceEqDiff, Nat.reduceAdd, Nat.reduceSub, Nat.reduceMul, Nat.reduceLeDiff, Nat.reduceLT, Int.reduceLT, Int.reduceLE, Int.reduceToNat, Int.reduceEq, Int.cast_ofNat_Int, f2, f3, hd, Bool.not_false]
        refine OutQ.eq (by repeat (first | exact SExt.refl _ | (refine SExt.old ?_ (by first | (simp only [*]; done) | (simp only [upd_none]; assumption) | (simp only [upd_none, *, not_false_eq_true, and_self]; done)) _))) rfl
      · rw [hd] at g2
        simp only [sZ, initT, optI, splice, reduceIte, reduceCtorEq, Nat.reduceEqDiff, Nat.reduceAdd, Nat.reduceSub, Nat.reduceMul, Nat.reduceLeDiff, Nat.reduceLT, Int.reduceLT, Int.reduceLE, Int.reduceToNat, Int.reduceEq, Int.cast_ofNat_Int, f2, f3, e1, q1, q2, hgq, hkq, Int.toNat_natCast, hd, Bool.not_true, len_encObj, wh_encObj, st_encObj]
        refine callQS_quiet (hsub j q hq (of_decide_eq_true hd) _ _) ?_
        cases hsb : sub m[q]
        · rw [hno (by rw [hsb, Bool.and_false])]
          simp only [sZ, initT, optI, splice, reduceIte, reduceCtorEq, Nat.reduceEqDiff, Nat.reduceAdd, Nat.reduceSub, Nat.reduceMul, Nat.reduceLeDiff, Nat.reduceLT, Int.reduceLT, Int.reduceLE, Int.reduceToNat, Int.reduceEq, Int.cast_ofNat_Int, f2, f3, Bool.not_false]
          refine OutQ.eq (by repeat (first | exact SExt.refl _ | (refine SExt.old ?_ (by first | (simp only [*]; done) | (simp only [upd_none]; assumption) | (simp only [upd_none, *, not_false_eq_true, and_self]; done)) _))) rfl
        · simp only [sZ, initT, optI, splice, reduceIte, reduceCtorEq, Nat.reduceEqDiff, Nat.reduceAdd, Nat.reduceSub, Nat.reduceMul, Nat.reduceLeDiff, Nat.reduceLT, Int.reduceLT, Int.reduceLE, Int.reduceToNat, Int.reduceEq, Int.cast_ofNat_Int, f2, f3, Bool.not_true, hw]
          refine next_L hj' () (SExt.refl _) rfl (by (try simp only [TabLe_cons, TabLe_nil, tab_cons, tab_nil, upd_apply, Nat.reduceEqDiff, reduceIte, and_true]); repeat' (first | exact trivial | exact A.le_refl _ | exact le_strip_no _ _ _ | exact A.le_no _ _ _ | exact A.le_empty _ _ _ | refine And.intro ?_ ?_)) fun i hi => ?_
          by_cases hij : i = j
          · subst hij
            rw [hgd, hsA, hsb, g2]
            rfl
          · exact hall i (by omega)
  · have hje : j = refs.length := by have := of_decide_eq_false hge; omega
    subst hje
    have : soundW sub m ⟨id, kind, x, y, refs, tags⟩ = true := by
      unfold soundW
      rw [List.all_eq_true]
      exact fun i hi => hall i (List.mem_range.1 hi)
    rw [this]
    simp only [sZ, initT, optI, splice, reduceIte, reduceCtorEq, Nat.reduceEqDiff, Nat.reduceAdd, Nat.reduceSub, Nat.reduceMul, Nat.reduceLeDiff, Nat.reduceLT, Int.reduceLT, Int.reduceLE, Int.reduceToNat, Int.reduceEq, Int.cast_ofNat_Int]
    refine OutQ.eq (by repeat (first | exact SExt.refl _ | (refine SExt.old ?_ (by first | (simp only [*]; done) | (simp only [upd_none]; assumption) | (simp only [upd_none, *, not_false_eq_true, and_self]; done)) _))) rfl
theorem spec_none (m : List Obj) (o : Obj) (hr : o.refs = []) {s : Nat → Option Blk} {k : Nat → Tk} : Spec prg 70 [.agg (encMap m), .agg (encObj o)] s k (.bool true) s k := by
  refine spec_tr prg_mixed tr_pref13_Sound (Nat.le_of_ble_eq_true rfl) rfl ?_
  unfold pc_pref13_Sound rs_pref13_Sound
  obtain ⟨id, kind, x, y, refs, tags⟩ := o
  dsimp only at hr
  subst hr
  simp only [sZ, initT, optI, splice, reduceIte, reduceCtorEq, Nat.reduceEqDiff, Nat.reduceAdd, Nat.reduceSub, Nat.reduceMul, Nat.reduceLeDiff, Nat.reduceLT, Int.reduceLT, Int.reduceLE, Int.reduceToNat, Int.reduceEq, Int.cast_ofNat_Int, encMap]
  (with_reducible refine newS_in ?_); intro b2 f2; simp only [upd_none] at f2
  simp only [sZ, initT, optI, splice, reduceIte, reduceCtorEq, Nat.reduceEqDiff, Nat.reduceAdd, Nat.reduceSub, Nat.reduceMul, Nat.reduceLeDiff, Nat.reduceLT, Int.reduceLT, Int.reduceLE, Int.reduceToNat, Int.reduceEq, Int.cast_ofNat_Int, f2, encObj]
  (with_reducible refine newS_in ?_); intro b3 f3; simp only [upd_none] at f3
  simp only [sZ, initT, optI, splice, reduceIte, reduceCtorEq, Nat.reduceEqDiff, Nat.reduceAdd, Nat.reduceSub, Nat.reduceMul, Nat.reduceLeDiff, Nat.reduceLT, Int.reduceLT, Int.reduceLE, Int.reduceToNat, Int.reduceEq, Int.cast_ofNat_Int, f2, f3]
  refine loop_L (α := Unit) 0 (fun j _ => [(3, .ptr b3 0), (5, .int .i64 j)]) (fun j _ => upd (upd s b2 (some (.cells [.sl 6 (m.map encObj) .no]))) b3 (some (.cells [.str id, .int .i64 kind, .int .i64 x, .int .i64 y, .sl 1 [] .no, .sl 2 (tags.map encTag) .no]))) (fun _ _ => k) (fun j _ => True) () (SExt.refl _) rfl (by (try simp only [TabLe_cons, TabLe_nil, tab_cons, tab_nil, upd_apply, Nat.reduceEqDiff, reduceIte, and_true]); repeat' (first | exact trivial | exact A.le_refl _ | exact le_strip_no _ _ _ | exact A.le_no _ _ _ | exact A.le_empty _ _ _ | refine And.intro ?_ ?_)) trivial ?_
  rintro j ⟨⟩ hj -
  try dsimp only
  obtain rfl : j = 0 := by omega
  simp only [sZ, initT, optI, splice, reduceIte, reduceCtorEq, Nat.reduceEqDiff, Nat.reduceAdd, Nat.reduceSub, Nat.reduceMul, Nat.reduceLeDiff, Nat.reduceLT, Int.reduceLT, Int.reduceLE, Int.reduceToNat, Int.reduceEq, Int.cast_ofNat_Int, f2, f3]
  refine OutQ.eq (by repeat (first | exact SExt.refl _ | (refine SExt.old ?_ (by first | (simp only [*]; done) | (simp only [upd_none]; assumption) | (simp only [upd_none, *, not_false_eq_true, and_self]; done)) _))) rfl
theorem node_refs {o : Obj} (h : objV o = true) (hk : o.kind = 1) : o.refs = [] := by
  unfold objV tailV at h
  rw [hk] at h
  simp only [Bool.and_eq_true, decide_true, cond_true, decide_eq_true_eq] at h
  exact List.length_eq_zero_iff.1 h.2.2.2.2.2.2.1
theorem map_obj {m : List Obj} (h : mapV m = true) {o : Obj} (ho : o ∈ m) : objV o = true := by
  unfold mapV at h
  rw [Bool.and_eq_true] at h
  obtain ⟨b, hb⟩ := chain_mem h.1 o ho
  unfold inMap at hb
  rw [Bool.and_eq_true] at hb
  exact hb.1
def sound1 (m : List Obj) : Obj → Bool := soundW (fun _ => true) m
def sound2 (m : List Obj) : Obj → Bool := soundW (sound1 m) m
theorem spec_sound (m : List Obj) (o : Obj) (ho : o ∈ m) (hv : mapV m = true) (hm : MapFit m) (hl : m.length < 1152921504606846976) {s : Nat → Option Blk} {k : Nat → Tk} : Spec prg 70 [.agg (encMap m), .agg (encObj o)] s k (.bool (sound2 m o)) s k := by
  have h0 : ∀ p ∈ m, p.kind = 1 → ∀ s k, Spec prg 70 [.agg (encMap m), .agg (encObj p)] s k (.bool true) s k := fun p hp hk s k => spec_none m p (node_refs (map_obj hv hp) hk)
  have h1 : ∀ p ∈ m, p.kind = 1 ∨ p.kind = 2 → ∀ s k, Spec prg 70 [.agg (encMap m), .agg (encObj p)] s k (.bool (sound1 m p)) s k := by
    intro p hp hk s k
    refine spec_step m p hv hl (hm.obj p hp).refs _ fun j q hq hk2 => h0 _ (List.getElem_mem hq) ?_
    rw [hk2]
    rcases hk with hk | hk <;> rw [hk] <;> rfl
  refine spec_step m o hv hl (hm.obj o ho).refs _ fun j q hq hk2 => h1 _ (List.getElem_mem hq) ?_
  rw [hk2]
  unfold wantK
  cases (decide (o.kind = 4) || (decide (o.kind = 5) && !decide ((j : Int) = 1)))
  · exact .inl rfl
  · exact .inr rfl
theorem closed_sound {m : List Obj} (hv : mapV m = true) : (m.all (sound2 m)) = closedF m := by
  have hok : ∀ (o : Obj), decide (refsE (kindM m []) o.kind o.refs = 0) = true ↔ ∀ j, j < o.refs.length → errAt (kindM m []) o.kind o.refs j = 0 := by
    intro o
    rw [decide_eq_true_eq]
    constructor
    · intro h j hj
      have : ∀ n, n ≤ j → errAt (kindM m []) o.kind o.refs n = 0 := by
        intro n
        induction n using Nat.strongRecOn with
        | _ n ih =>
          intro hn
          refine Classical.byContradiction fun hne => ?_
          have := firstNZ_hit (n := o.refs.length) (j := n) (f := errAt (kindM m []) o.kind o.refs) (by omega) (fun i hi => ih i hi (by omega)) hne
          unfold refsE at h
          rw [h] at this
          exact hne this.symm
      exact this j (Nat.le_refl _)
    · intro h
      unfold refsE
      exact firstNZ_none h
  unfold closedF
  rw [hv, Bool.true_and, Bool.eq_iff_iff, List.all_eq_true, List.all_eq_true]
  constructor
  · intro h o ho
    refine (hok o).2 fun j hj => ?_
    have := h o ho
    unfold sound2 soundW at this
    rw [List.all_eq_true] at this
    have := this j (List.mem_range.2 hj)
    rw [Bool.and_eq_true] at this
    exact of_decide_eq_true this.1
  · have hsome : ∀ (o : Obj), o ∈ m → ∀ j (hj : j < o.refs.length), errAt (kindM m []) o.kind o.refs j = 0 → ∃ p ∈ m, m.find? (fun q => decide (q.id = o.refs.getD j ⟨#[]⟩)) = some p := by
      intro o ho j hj he
      have hgd : o.refs.getD j ⟨#[]⟩ = o.refs[j] := by rw [List.getD_eq_getElem?_getD, List.getElem?_eq_getElem hj]; rfl
      rw [hgd]
      rcases errAt_id hv o.kind o.refs hj with ⟨g1, g2⟩ | ⟨q, hq, g1, g3, g2⟩
      · rw [g2] at he; cases he
      · exact ⟨m[q], List.getElem_mem hq, g3⟩
    intro h o ho
    unfold sound2 soundW
    rw [List.all_eq_true]
    intro j hj
    have hj := List.mem_range.1 hj
    have he := (hok o).1 (h o ho) j hj
    rw [decide_eq_true he, Bool.true_and]
    obtain ⟨p, hp, hf⟩ := hsome o ho j hj he
    unfold subAt
    rw [hf]
    dsimp only
    unfold sound1 soundW
    rw [List.all_eq_true]
    intro i hi
    have hi := List.mem_range.1 hi
    have he2 := (hok p).1 (h p hp) i hi
    rw [decide_eq_true he2, Bool.true_and]
    obtain ⟨p2, hp2, hf2⟩ := hsome p hp i hi he2
    unfold subAt
    rw [hf2]
end Go.Pv
