/- The reference's Valid of edits and of change sets. -/
import Derived.Test.YtgmdhegbkbeihaaGreatZRefE
set_option linter.unusedVariables false
set_option linter.unusedSimpArgs false
set_option maxRecDepth 4000
set_option maxHeartbeats 8000000
namespace Go.Pv
open Go

theorem all_get_false {l : List ByteArray} {p : ByteArray → Bool} {j : Nat} (hj : j < l.length) (h : p l[j] = false) : l.all p = false := by
  rw [List.all_eq_false]
  exact ⟨l[j], List.getElem_mem hj, by rw [h]; simp⟩
theorem all_get_true {l : List ByteArray} {p : ByteArray → Bool} (h : ∀ i (h : i < l.length), p l[i] = true) : l.all p = true := by
  rw [List.all_eq_true]
  intro x hx
  obtain ⟨i, hi, rfl⟩ := List.getElem_of_mem hx
  exact h i hi
theorem spec_validr (e : Edit) (hf : EditFit e) (hr : e.refs.length ≤ 1000000) {s : Nat → Option Blk} {k : Nat → Tk} : Spec prg 71 [.agg (encEdit e)] s k (.bool (editV e)) s k := by
  refine spec_tr prg_mixed tr_pref21_Valid (Nat.le_of_ble_eq_true rfl) rfl ?_
  unfold pc_pref21_Valid rs_pref21_Valid
  rw [← validR_eq]
  have hb := fun s k => @spec_bare e s k
  obtain ⟨op, id, ot, no, x, y, ke, va, re, ob⟩ := e
  obtain ⟨hf1, hf2, hf3, hf4, hf5, hf6, hf7, hf8⟩ := hf
  dsimp only at hf1 hf2 hf3 hf4 hf5 hf6 hf7 hf8 hr
  have hob := fun s k => @spec_objr ob hf8 s k
  have hs0 : ∀ s k, Spec prg 54 [.agg (encObj ob), .agg zcells] s k (.bool (decide (ob = zeroObj))) s k := fun s k =>
    Spec.args (spec_sameR ob zeroObj hf8.refs hf8.tags) (.cons (A.le_refl _) (.cons le_zero .nil))
  have hs1 : ∀ s k, Spec prg 54 [.agg zcells, .agg zcells] s k (.bool true) s k := fun s k => by
    have := Spec.args (xs := [.agg zcells, .agg zcells]) (@spec_sameR zeroObj zeroObj (by decide) (by decide) s k) (.cons le_zero (.cons le_zero .nil))
    rwa [decide_eq_true rfl] at this
  have hs2 : ∀ s k, Spec prg 54 [.agg (encObj zeroObj), .agg zcells] s k (.bool true) s k := fun s k => by
    have := Spec.args (xs := [.agg (encObj zeroObj), .agg zcells]) (@spec_sameR zeroObj zeroObj (by decide) (by decide) s k) (.cons (A.le_refl _) (.cons le_zero .nil))
    rwa [decide_eq_true rfl] at this
  have hmapnil : ∀ (β : Type) (f : β → List A), List.map f [] = [] := fun _ _ => rfl
  simp only [encObj, zcells, zeroObj, hmapnil] at hob hs0 hs1 hs2
  simp only [sZ, initT, optI, splice, reduceIte, reduceCtorEq, Nat.reduceEqDiff, Nat.reduceAdd, Nat.reduceSub, Nat.reduceMul, Nat.reduceLeDiff, Nat.reduceLT, Int.reduceLT, Int.reduceLE, Int.reduceToNat, Int.reduceEq, Int.cast_ofNat_Int, encEdit]
  (with_reducible refine newS_in ?_); intro b1 f1; simp only [upd_none] at f1
  have d0 : decide ((0 : Int) < (re.length : Int)) = !decide (re = []) := by cases re <;> simp
  by_cases c1 : op = 1
  · subst c1
    have hE : bareE ⟨1, id, ot, no, x, y, ke, va, re, ob⟩ = ⟨1, id, ot, no, x, y, ke, va, re, zeroObj⟩ := rfl
    rw [hE] at hb
    simp only [encEdit, zeroObj, hmapnil] at hb
    generalize hV : validR ⟨1, id, ot, no, x, y, ke, va, re, ob⟩ = V
    have hV' : V = (!bareB (⟨1, id, ot, no, x, y, ke, va, re, zeroObj⟩ : Edit) && objV ob) := by rw [← hV]; rfl
    clear hV
    generalize hBB : bareB (⟨1, id, ot, no, x, y, ke, va, re, zeroObj⟩ : Edit) = BB at hV'
    simp only [bareB, zeroObj] at hBB
    simp only [sZ, initT, optI, splice, reduceIte, reduceCtorEq, Nat.reduceEqDiff, Nat.reduceAdd, Nat.reduceSub, Nat.reduceMul, Nat.reduceLeDiff, Nat.reduceLT, Int.reduceLT, Int.reduceLE, Int.reduceToNat, Int.reduceEq, Int.cast_ofNat_Int, f1, decide_true, decide_false]
    refine callS_quiet (hb _ _) ?_
    simp only [sZ, initT, optI, splice, reduceIte, reduceCtorEq, Nat.reduceEqDiff, Nat.reduceAdd, Nat.reduceSub, Nat.reduceMul, Nat.reduceLeDiff, Nat.reduceLT, Int.reduceLT, Int.reduceLE, Int.reduceToNat, Int.reduceEq, Int.cast_ofNat_Int, f1, decide_true, decide_false]
    (with_reducible refine newS_in ?_); intro b3 f3; simp only [upd_none] at f3
    simp only [sZ, initT, optI, splice, reduceIte, reduceCtorEq, Nat.reduceEqDiff, Nat.reduceAdd, Nat.reduceSub, Nat.reduceMul, Nat.reduceLeDiff, Nat.reduceLT, Int.reduceLT, Int.reduceLE, Int.reduceToNat, Int.reduceEq, Int.cast_ofNat_Int, f1, f3, decide_true, decide_false]
    have hout : ∀ t k1, BB = true → OutQ s k (.bool V) (.bool false) ⟨t, upd (upd s b1 (some (.cells [.int .i64 1, .str id, .str ot, .str no, .int .i64 x, .int .i64 y, .str ke, .str va, .sl 1 (re.map encStr) .no, .str ob.id, .int .i64 ob.kind, .int .i64 ob.x, .int .i64 ob.y, .sl 1 (ob.refs.map encStr) .no, .sl 2 (ob.tags.map encTag) .no]))) b3 (some (.cells (encEdit ⟨1, id, ot, no, x, y, ke, va, re, zeroObj⟩))), k1⟩ → True := fun _ _ _ _ => trivial
    clear hout
    repeat' (first | (refine callS_quiet (hs1 _ _) ?_) | (refine callS_quiet (hs2 _ _) ?_) | (first | (with_reducible refine newS_in ?_; intro _ hid_; simp only [upd_none] at hid_) | (with_reducible refine newR_in ?_; intro _ hid_ hih_; simp only [upd_none, upd_none', rr_eqs2, and_true] at hid_ hih_) | (with_reducible refine mkmS_in ?_; intro _ hid_; simp only [upd_none] at hid_)) | (with_reducible refine brC_in (fun h_ => ?_) (fun h_ => ?_)) | (with_reducible refine brG_in (fun h_ => ?_) (fun h_ => ?_)) | (with_reducible refine brN_in (fun h_ => ?_) (fun h_ => ?_)) | simp only [sZ, initT, optI, splice, reduceIte, reduceCtorEq, Nat.reduceEqDiff, Nat.reduceAdd, Nat.reduceSub, Nat.reduceMul, Nat.reduceLeDiff, Nat.reduceLT, Int.reduceLT, Int.reduceLE, Int.reduceToNat, Int.reduceEq, Int.cast_ofNat_Int, *, f1, f3, fit_pt, eq_pt, d0, decide_true, decide_false, -hBB, -hV', -hf1, -hf2, -hf3, -hf4, -hf5, -hf6, -hf7, -hf8, -hb, -hob, -hs0, -hs1, -hs2])
    all_goals first | (refine OutQ.eq (by repeat (first | exact SExt.refl _ | (refine SExt.old ?_ (by first | (simp only [*]; done) | (simp only [upd_none]; assumption) | (simp only [upd_none, *, not_false_eq_true, and_self]; done)) _))) ?_; have hBt : BB = true := (by rw [← hBB]; clear hBB hV' hb hob hs0 hs1 hs2; simp_all; done); rw [hV', hBt]; rfl) | skip
    all_goals have hBf : BB = false := by rw [← hBB]; clear hBB hV' hb hob hs0 hs1 hs2; simp_all
    all_goals rw [hBf, Bool.not_false, Bool.true_and] at hV'
    all_goals clear hBB hBf
    refine callS_quiet (hob _ _) ?_
    simp only [sZ, initT, optI, splice, reduceIte, reduceCtorEq, Nat.reduceEqDiff, Nat.reduceAdd, Nat.reduceSub, Nat.reduceMul, Nat.reduceLeDiff, Nat.reduceLT, Int.reduceLT, Int.reduceLE, Int.reduceToNat, Int.reduceEq, Int.cast_ofNat_Int, f1, decide_true, decide_false]
    rw [hV']
    refine OutQ.eq (by repeat (first | exact SExt.refl _ | (refine SExt.old ?_ (by first | (simp only [*]; done) | (simp only [upd_none]; assumption) | (simp only [upd_none, *, not_false_eq_true, and_self]; done)) _))) rfl
  by_cases c2 : op = 2
  · subst c2
    have hE : bareE ⟨2, id, ot, no, x, y, ke, va, re, ob⟩ = ⟨2, ⟨#[]⟩, ot, no, 0, 0, ke, va, re, ob⟩ := rfl
    rw [hE] at hb
    simp only [encEdit, zeroObj, hmapnil] at hb
    generalize hV : validR ⟨2, id, ot, no, x, y, ke, va, re, ob⟩ = V
    have hV' : V = (!bareB (⟨2, ⟨#[]⟩, ot, no, 0, 0, ke, va, re, ob⟩ : Edit) && ([id].all nameF && (!(decide ((2 : Int) = 4) && (decide ((re.length : Int) < 1) || decide ((2000 : Int) < re.length))) && (decide ((va.size : Int) ≤ 200) && (!decide ((2 : Int) = 2) || gridF x y))))) := by rw [← hV]; rfl
    clear hV
    generalize hBB : bareB (⟨2, ⟨#[]⟩, ot, no, 0, 0, ke, va, re, ob⟩ : Edit) = BB at hV'
    simp only [bareB, zeroObj] at hBB
    simp only [sZ, initT, optI, splice, reduceIte, reduceCtorEq, Nat.reduceEqDiff, Nat.reduceAdd, Nat.reduceSub, Nat.reduceMul, Nat.reduceLeDiff, Nat.reduceLT, Int.reduceLT, Int.reduceLE, Int.reduceToNat, Int.reduceEq, Int.cast_ofNat_Int, f1, decide_true, decide_false]
    refine callS_quiet (hb _ _) ?_
    simp only [sZ, initT, optI, splice, reduceIte, reduceCtorEq, Nat.reduceEqDiff, Nat.reduceAdd, Nat.reduceSub, Nat.reduceMul, Nat.reduceLeDiff, Nat.reduceLT, Int.reduceLT, Int.reduceLE, Int.reduceToNat, Int.reduceEq, Int.cast_ofNat_Int, f1, decide_true, decide_false]
    (with_reducible refine newS_in ?_); intro b3 f3; simp only [upd_none] at f3
    simp only [sZ, initT, optI, splice, reduceIte, reduceCtorEq, Nat.reduceEqDiff, Nat.reduceAdd, Nat.reduceSub, Nat.reduceMul, Nat.reduceLeDiff, Nat.reduceLT, Int.reduceLT, Int.reduceLE, Int.reduceToNat, Int.reduceEq, Int.cast_ofNat_Int, f1, f3, decide_true, decide_false]
    have hout : ∀ t k1, BB = true → OutQ s k (.bool V) (.bool false) ⟨t, upd (upd s b1 (some (.cells [.int .i64 2, .str id, .str ot, .str no, .int .i64 x, .int .i64 y, .str ke, .str va, .sl 1 (re.map encStr) .no, .str ob.id, .int .i64 ob.kind, .int .i64 ob.x, .int .i64 ob.y, .sl 1 (ob.refs.map encStr) .no, .sl 2 (ob.tags.map encTag) .no]))) b3 (some (.cells (encEdit ⟨2, ⟨#[]⟩, ot, no, 0, 0, ke, va, re, ob⟩))), k1⟩ → True := fun _ _ _ _ => trivial
    clear hout
    repeat' (first | (refine callS_quiet (hs0 _ _) ?_) | (first | (with_reducible refine newS_in ?_; intro _ hid_; simp only [upd_none] at hid_) | (with_reducible refine newR_in ?_; intro _ hid_ hih_; simp only [upd_none, upd_none', rr_eqs2, and_true] at hid_ hih_) | (with_reducible refine mkmS_in ?_; intro _ hid_; simp only [upd_none] at hid_)) | (with_reducible refine brC_in (fun h_ => ?_) (fun h_ => ?_)) | (with_reducible refine brG_in (fun h_ => ?_) (fun h_ => ?_)) | (with_reducible refine brN_in (fun h_ => ?_) (fun h_ => ?_)) | simp only [sZ, initT, optI, splice, reduceIte, reduceCtorEq, Nat.reduceEqDiff, Nat.reduceAdd, Nat.reduceSub, Nat.reduceMul, Nat.reduceLeDiff, Nat.reduceLT, Int.reduceLT, Int.reduceLE, Int.reduceToNat, Int.reduceEq, Int.cast_ofNat_Int, *, f1, f3, fit_pt, eq_pt, d0, decide_true, decide_false, -hBB, -hV', -hf1, -hf2, -hf3, -hf4, -hf5, -hf6, -hf7, -hf8, -hb, -hob, -hs0, -hs1, -hs2])
    all_goals first | (refine OutQ.eq (by repeat (first | exact SExt.refl _ | (refine SExt.old ?_ (by first | (simp only [*]; done) | (simp only [upd_none]; assumption) | (simp only [upd_none, *, not_false_eq_true, and_self]; done)) _))) ?_; have hBt : BB = true := (by rw [← hBB]; clear hBB hV' hb hob hs0 hs1 hs2; simp_all; done); rw [hV', hBt]; rfl) | skip
    all_goals have hBf : BB = false := by rw [← hBB]; clear hBB hV' hb hob hs0 hs1 hs2; simp_all
    all_goals rw [hBf, Bool.not_false, Bool.true_and] at hV'
    all_goals clear hBB hBf
    have hk1 : KExt k k := KExt.refl _
    obtain ⟨ns, hns⟩ : ∃ ns : List ByteArray, ns = [id] := ⟨_, rfl⟩
    have hsz : ∀ x ∈ ns, x.size < 4611686018427387904 := by
      rw [hns]
      intro x hx
      simp only [List.mem_cons, List.not_mem_nil, or_false] at hx
      rcases hx with rfl | hx
      all_goals first | assumption | (subst hx; assumption) | exact hf7 _ hx | (rcases hx with rfl | rfl <;> assumption)
    have hnl : ns.length ≤ 1000001 := by rw [hns]; simp; try omega
    rw [← hns] at hV'
    refine loop_L (α := Unit) ns.length (fun j _ => [(1, .ptr b1 0), (4, .sl 1 (ns.map encStr) .no), (5, .int .i64 j)]) (fun _ _ => upd s b1 (some (.cells [.int .i64 2, .str id, .str ot, .str no, .int .i64 x, .int .i64 y, .str ke, .str va, .sl 1 (re.map encStr) .no, .str ob.id, .int .i64 ob.kind, .int .i64 ob.x, .int .i64 ob.y, .sl 1 (ob.refs.map encStr) .no, .sl 2 (ob.tags.map encTag) .no]))) (fun _ _ => k) (fun j _ => ∀ i (h : i < ns.length), i < j → nameF ns[i] = true) () (by repeat (first | exact SExt.refl _ | (refine SExt.old ?_ (by first | (simp only [*]; done) | (simp only [upd_none]; assumption) | (simp only [upd_none, *, not_false_eq_true, and_self]; done)) _))) rfl (by rw [hns]; exact (by (try simp only [TabLe_cons, TabLe_nil, tab_cons, tab_nil, upd_apply, Nat.reduceEqDiff, reduceIte, and_true]); repeat' (first | exact trivial | exact A.le_refl _ | exact le_strip_no _ _ _ | exact A.le_no _ _ _ | exact A.le_empty _ _ _ | refine And.intro ?_ ?_))) (fun i _ h => by omega) ?_
    clear hns
    rintro j ⟨⟩ hj hall
    try dsimp only
    simp only [sZ, initT, optI, splice, reduceIte, reduceCtorEq, Nat.reduceEqDiff, Nat.reduceAdd, Nat.reduceSub, Nat.reduceMul, Nat.reduceLeDiff, Nat.reduceLT, Int.reduceLT, Int.reduceLE, Int.reduceToNat, Int.reduceEq, Int.cast_ofNat_Int, f1]
    refine brC_in (fun hlt => ?_) (fun hge => ?_)
    · have hj' : j < ns.length := by have := of_decide_eq_true hlt; omega
      clear hlt
      have hw := wrap_succ hj' (by omega)
      have hg : (ns.map encStr)[j]? = some (encStr ns[j]) := strE.get hj'
      simp only [sZ, initT, optI, splice, reduceIte, reduceCtorEq, Nat.reduceEqDiff, Nat.reduceAdd, Nat.reduceSub, Nat.reduceMul, Nat.reduceLeDiff, Nat.reduceLT, Int.reduceLT, Int.reduceLE, Int.reduceToNat, Int.reduceEq, Int.cast_ofNat_Int, f1, hg, get_str]
      refine callS_quiet (spec_Namer ns[j] (hsz _ (List.getElem_mem hj'))) ?_
      cases hn : nameF ns[j]
      · rw [hV', all_get_false hj' hn, Bool.false_and]
        simp only [sZ, initT, optI, splice, reduceIte, reduceCtorEq, Nat.reduceEqDiff, Nat.reduceAdd, Nat.reduceSub, Nat.reduceMul, Nat.reduceLeDiff, Nat.reduceLT, Int.reduceLT, Int.reduceLE, Int.reduceToNat, Int.reduceEq, Int.cast_ofNat_Int, f1, Bool.not_false]
        exact OutQ.lek (by repeat (first | exact SExt.refl _ | (refine SExt.old ?_ (by first | (simp only [*]; done) | (simp only [upd_none]; assumption) | (simp only [upd_none, *, not_false_eq_true, and_self]; done)) _))) hk1 (A.le_refl _)
      · simp only [sZ, initT, optI, splice, reduceIte, reduceCtorEq, Nat.reduceEqDiff, Nat.reduceAdd, Nat.reduceSub, Nat.reduceMul, Nat.reduceLeDiff, Nat.reduceLT, Int.reduceLT, Int.reduceLE, Int.reduceToNat, Int.reduceEq, Int.cast_ofNat_Int, f1, Bool.not_true, hw]
        refine next_L hj' () (SExt.refl _) rfl (by (try simp only [TabLe_cons, TabLe_nil, tab_cons, tab_nil, upd_apply, Nat.reduceEqDiff, reduceIte, and_true]); repeat' (first | exact trivial | exact A.le_refl _ | exact le_strip_no _ _ _ | exact A.le_no _ _ _ | exact A.le_empty _ _ _ | refine And.intro ?_ ?_)) fun i hi h3 => ?_
        by_cases hij : i = j
        · subst hij; exact hn
        · exact hall i hi (by omega)
    · have hje : j = ns.length := by have := of_decide_eq_false hge; omega
      subst hje
      rw [all_get_true fun i hi => hall i hi hi, Bool.true_and] at hV'
      simp only [Int.reduceEq, decide_true, decide_false, Bool.false_and, Bool.true_and, Bool.not_false, Bool.not_true, Bool.true_or, Bool.false_or, Bool.and_true] at hV'
      clear hall hge hj hsz hnl
      simp only [sZ, initT, optI, splice, reduceIte, reduceCtorEq, Nat.reduceEqDiff, Nat.reduceAdd, Nat.reduceSub, Nat.reduceMul, Nat.reduceLeDiff, Nat.reduceLT, Int.reduceLT, Int.reduceLE, Int.reduceToNat, Int.reduceEq, Int.cast_ofNat_Int, f1, decide_true, decide_false]
      repeat' (first | (refine callS_quiet (spec_gridR x y) ?_) | (first | (with_reducible refine newS_in ?_; intro _ hid_; simp only [upd_none] at hid_) | (with_reducible refine newR_in ?_; intro _ hid_ hih_; simp only [upd_none, upd_none', rr_eqs2, and_true] at hid_ hih_) | (with_reducible refine mkmS_in ?_; intro _ hid_; simp only [upd_none] at hid_)) | (with_reducible refine brC_in (fun h_ => ?_) (fun h_ => ?_)) | (with_reducible refine brG_in (fun h_ => ?_) (fun h_ => ?_)) | (with_reducible refine brN_in (fun h_ => ?_) (fun h_ => ?_)) | simp only [sZ, initT, optI, splice, reduceIte, reduceCtorEq, Nat.reduceEqDiff, Nat.reduceAdd, Nat.reduceSub, Nat.reduceMul, Nat.reduceLeDiff, Nat.reduceLT, Int.reduceLT, Int.reduceLE, Int.reduceToNat, Int.reduceEq, Int.cast_ofNat_Int, *, f1, decide_true, decide_false, -hV', -hf1, -hf2, -hf3, -hf4, -hf5, -hf6, -hf7, -hf8, -hb, -hob, -hs0, -hs1, -hs2])
      all_goals refine OutQ.lek (by repeat (first | exact SExt.refl _ | (refine SExt.old ?_ (by first | (simp only [*]; done) | (simp only [upd_none]; assumption) | (simp only [upd_none, *, not_false_eq_true, and_self]; done)) _))) hk1 ?_
      all_goals have hVV : ∀ b : Bool, V = b → A.le (.bool b) (.bool V) := fun b h => by rw [h]; exact A.le_refl _
      all_goals refine hVV _ ?_
      all_goals rw [hV']
      all_goals clear hV' hVV hb hob hs0 hs1 hs2
      all_goals simp_all only [Bool.not_eq_true', Bool.not_eq_false', Bool.not_not, Bool.not_true, Bool.not_false, Bool.and_true, Bool.true_and, Bool.and_false, Bool.false_and, Bool.or_true, Bool.true_or, Bool.or_false, Bool.false_or]
  by_cases c3 : op = 3
  · subst c3
    have hE : bareE ⟨3, id, ot, no, x, y, ke, va, re, ob⟩ = ⟨3, ⟨#[]⟩, ot, no, x, y, ⟨#[]⟩, ⟨#[]⟩, re, ob⟩ := rfl
    rw [hE] at hb
    simp only [encEdit, zeroObj, hmapnil] at hb
    generalize hV : validR ⟨3, id, ot, no, x, y, ke, va, re, ob⟩ = V
    have hV' : V = (!bareB (⟨3, ⟨#[]⟩, ot, no, x, y, ⟨#[]⟩, ⟨#[]⟩, re, ob⟩ : Edit) && ([id, ke].all nameF && (!(decide ((3 : Int) = 4) && (decide ((re.length : Int) < 1) || decide ((2000 : Int) < re.length))) && (decide ((va.size : Int) ≤ 200) && (!decide ((3 : Int) = 2) || gridF x y))))) := by rw [← hV]; rfl
    clear hV
    generalize hBB : bareB (⟨3, ⟨#[]⟩, ot, no, x, y, ⟨#[]⟩, ⟨#[]⟩, re, ob⟩ : Edit) = BB at hV'
    simp only [bareB, zeroObj] at hBB
    simp only [sZ, initT, optI, splice, reduceIte, reduceCtorEq, Nat.reduceEqDiff, Nat.reduceAdd, Nat.reduceSub, Nat.reduceMul, Nat.reduceLeDiff, Nat.reduceLT, Int.reduceLT, Int.reduceLE, Int.reduceToNat, Int.reduceEq, Int.cast_ofNat_Int, f1, decide_true, decide_false]
    refine callS_quiet (hb _ _) ?_
    simp only [sZ, initT, optI, splice, reduceIte, reduceCtorEq, Nat.reduceEqDiff, Nat.reduceAdd, Nat.reduceSub, Nat.reduceMul, Nat.reduceLeDiff, Nat.reduceLT, Int.reduceLT, Int.reduceLE, Int.reduceToNat, Int.reduceEq, Int.cast_ofNat_Int, f1, decide_true, decide_false]
    (with_reducible refine newS_in ?_); intro b3 f3; simp only [upd_none] at f3
    simp only [sZ, initT, optI, splice, reduceIte, reduceCtorEq, Nat.reduceEqDiff, Nat.reduceAdd, Nat.reduceSub, Nat.reduceMul, Nat.reduceLeDiff, Nat.reduceLT, Int.reduceLT, Int.reduceLE, Int.reduceToNat, Int.reduceEq, Int.cast_ofNat_Int, f1, f3, decide_true, decide_false]
    have hout : ∀ t k1, BB = true → OutQ s k (.bool V) (.bool false) ⟨t, upd (upd s b1 (some (.cells [.int .i64 3, .str id, .str ot, .str no, .int .i64 x, .int .i64 y, .str ke, .str va, .sl 1 (re.map encStr) .no, .str ob.id, .int .i64 ob.kind, .int .i64 ob.x, .int .i64 ob.y, .sl 1 (ob.refs.map encStr) .no, .sl 2 (ob.tags.map encTag) .no]))) b3 (some (.cells (encEdit ⟨3, ⟨#[]⟩, ot, no, x, y, ⟨#[]⟩, ⟨#[]⟩, re, ob⟩))), k1⟩ → True := fun _ _ _ _ => trivial
    clear hout
    repeat' (first | (refine callS_quiet (hs0 _ _) ?_) | (first | (with_reducible refine newS_in ?_; intro _ hid_; simp only [upd_none] at hid_) | (with_reducible refine newR_in ?_; intro _ hid_ hih_; simp only [upd_none, upd_none', rr_eqs2, and_true] at hid_ hih_) | (with_reducible refine mkmS_in ?_; intro _ hid_; simp only [upd_none] at hid_)) | (with_reducible refine brC_in (fun h_ => ?_) (fun h_ => ?_)) | (with_reducible refine brG_in (fun h_ => ?_) (fun h_ => ?_)) | (with_reducible refine brN_in (fun h_ => ?_) (fun h_ => ?_)) | simp only [sZ, initT, optI, splice, reduceIte, reduceCtorEq, Nat.reduceEqDiff, Nat.reduceAdd, Nat.reduceSub, Nat.reduceMul, Nat.reduceLeDiff, Nat.reduceLT, Int.reduceLT, Int.reduceLE, Int.reduceToNat, Int.reduceEq, Int.cast_ofNat_Int, *, f1, f3, fit_pt, eq_pt, d0, decide_true, decide_false, -hBB, -hV', -hf1, -hf2, -hf3, -hf4, -hf5, -hf6, -hf7, -hf8, -hb, -hob, -hs0, -hs1, -hs2])
    all_goals first | (refine OutQ.eq (by repeat (first | exact SExt.refl _ | (refine SExt.old ?_ (by first | (simp only [*]; done) | (simp only [upd_none]; assumption) | (simp only [upd_none, *, not_false_eq_true, and_self]; done)) _))) ?_; have hBt : BB = true := (by rw [← hBB]; clear hBB hV' hb hob hs0 hs1 hs2; simp_all; done); rw [hV', hBt]; rfl) | skip
    all_goals have hBf : BB = false := by rw [← hBB]; clear hBB hV' hb hob hs0 hs1 hs2; simp_all
    all_goals rw [hBf, Bool.not_false, Bool.true_and] at hV'
    all_goals clear hBB hBf
    refine app_in (KExt.refl _) (.inr (.inl rfl)) (by simp) fun tok1 k1 hk1 htok1 => ?_
    simp only [sZ, initT, optI, splice, reduceIte, reduceCtorEq, Nat.reduceEqDiff, Nat.reduceAdd, Nat.reduceSub, Nat.reduceMul, Nat.reduceLeDiff, Nat.reduceLT, Int.reduceLT, Int.reduceLE, Int.reduceToNat, Int.reduceEq, Int.cast_ofNat_Int, f1, f3, decide_true, decide_false]
    obtain ⟨ns, hns⟩ : ∃ ns : List ByteArray, ns = [id, ke] := ⟨_, rfl⟩
    have hsz : ∀ x ∈ ns, x.size < 4611686018427387904 := by
      rw [hns]
      intro x hx
      simp only [List.mem_cons, List.not_mem_nil, or_false] at hx
      rcases hx with rfl | hx
      all_goals first | assumption | (subst hx; assumption) | exact hf7 _ hx | (rcases hx with rfl | rfl <;> assumption)
    have hnl : ns.length ≤ 1000001 := by rw [hns]; simp; try omega
    rw [← hns] at hV'
    refine loop_L (α := Unit) ns.length (fun j _ => [(1, .ptr b1 0), (4, .sl 1 (ns.map encStr) .no), (5, .int .i64 j)]) (fun _ _ => upd s b1 (some (.cells [.int .i64 3, .str id, .str ot, .str no, .int .i64 x, .int .i64 y, .str ke, .str va, .sl 1 (re.map encStr) .no, .str ob.id, .int .i64 ob.kind, .int .i64 ob.x, .int .i64 ob.y, .sl 1 (ob.refs.map encStr) .no, .sl 2 (ob.tags.map encTag) .no]))) (fun _ _ => k1) (fun j _ => ∀ i (h : i < ns.length), i < j → nameF ns[i] = true) () (by repeat (first | exact SExt.refl _ | (refine SExt.old ?_ (by first | (simp only [*]; done) | (simp only [upd_none]; assumption) | (simp only [upd_none, *, not_false_eq_true, and_self]; done)) _))) rfl (by rw [hns]; exact (by (try simp only [TabLe_cons, TabLe_nil, tab_cons, tab_nil, upd_apply, Nat.reduceEqDiff, reduceIte, and_true]); repeat' (first | exact trivial | exact A.le_refl _ | exact le_strip_no _ _ _ | exact A.le_no _ _ _ | exact A.le_empty _ _ _ | refine And.intro ?_ ?_))) (fun i _ h => by omega) ?_
    clear hns
    rintro j ⟨⟩ hj hall
    try dsimp only
    simp only [sZ, initT, optI, splice, reduceIte, reduceCtorEq, Nat.reduceEqDiff, Nat.reduceAdd, Nat.reduceSub, Nat.reduceMul, Nat.reduceLeDiff, Nat.reduceLT, Int.reduceLT, Int.reduceLE, Int.reduceToNat, Int.reduceEq, Int.cast_ofNat_Int, f1]
    refine brC_in (fun hlt => ?_) (fun hge => ?_)
    · have hj' : j < ns.length := by have := of_decide_eq_true hlt; omega
      clear hlt
      have hw := wrap_succ hj' (by omega)
      have hg : (ns.map encStr)[j]? = some (encStr ns[j]) := strE.get hj'
      simp only [sZ, initT, optI, splice, reduceIte, reduceCtorEq, Nat.reduceEqDiff, Nat.reduceAdd, Nat.reduceSub, Nat.reduceMul, Nat.reduceLeDiff, Nat.reduceLT, Int.reduceLT, Int.reduceLE, Int.reduceToNat, Int.reduceEq, Int.cast_ofNat_Int, f1, hg, get_str]
      refine callS_quiet (spec_Namer ns[j] (hsz _ (List.getElem_mem hj'))) ?_
      cases hn : nameF ns[j]
      · rw [hV', all_get_false hj' hn, Bool.false_and]
        simp only [sZ, initT, optI, splice, reduceIte, reduceCtorEq, Nat.reduceEqDiff, Nat.reduceAdd, Nat.reduceSub, Nat.reduceMul, Nat.reduceLeDiff, Nat.reduceLT, Int.reduceLT, Int.reduceLE, Int.reduceToNat, Int.reduceEq, Int.cast_ofNat_Int, f1, Bool.not_false]
        exact OutQ.lek (by repeat (first | exact SExt.refl _ | (refine SExt.old ?_ (by first | (simp only [*]; done) | (simp only [upd_none]; assumption) | (simp only [upd_none, *, not_false_eq_true, and_self]; done)) _))) hk1 (A.le_refl _)
      · simp only [sZ, initT, optI, splice, reduceIte, reduceCtorEq, Nat.reduceEqDiff, Nat.reduceAdd, Nat.reduceSub, Nat.reduceMul, Nat.reduceLeDiff, Nat.reduceLT, Int.reduceLT, Int.reduceLE, Int.reduceToNat, Int.reduceEq, Int.cast_ofNat_Int, f1, Bool.not_true, hw]
        refine next_L hj' () (SExt.refl _) rfl (by (try simp only [TabLe_cons, TabLe_nil, tab_cons, tab_nil, upd_apply, Nat.reduceEqDiff, reduceIte, and_true]); repeat' (first | exact trivial | exact A.le_refl _ | exact le_strip_no _ _ _ | exact A.le_no _ _ _ | exact A.le_empty _ _ _ | refine And.intro ?_ ?_)) fun i hi h3 => ?_
        by_cases hij : i = j
        · subst hij; exact hn
        · exact hall i hi (by omega)
    · have hje : j = ns.length := by have := of_decide_eq_false hge; omega
      subst hje
      rw [all_get_true fun i hi => hall i hi hi, Bool.true_and] at hV'
      simp only [Int.reduceEq, decide_true, decide_false, Bool.false_and, Bool.true_and, Bool.not_false, Bool.not_true, Bool.true_or, Bool.false_or, Bool.and_true] at hV'
      clear hall hge hj hsz hnl
      simp only [sZ, initT, optI, splice, reduceIte, reduceCtorEq, Nat.reduceEqDiff, Nat.reduceAdd, Nat.reduceSub, Nat.reduceMul, Nat.reduceLeDiff, Nat.reduceLT, Int.reduceLT, Int.reduceLE, Int.reduceToNat, Int.reduceEq, Int.cast_ofNat_Int, f1, decide_true, decide_false]
      repeat' (first | (refine callS_quiet (spec_gridR x y) ?_) | (first | (with_reducible refine newS_in ?_; intro _ hid_; simp only [upd_none] at hid_) | (with_reducible refine newR_in ?_; intro _ hid_ hih_; simp only [upd_none, upd_none', rr_eqs2, and_true] at hid_ hih_) | (with_reducible refine mkmS_in ?_; intro _ hid_; simp only [upd_none] at hid_)) | (with_reducible refine brC_in (fun h_ => ?_) (fun h_ => ?_)) | (with_reducible refine brG_in (fun h_ => ?_) (fun h_ => ?_)) | (with_reducible refine brN_in (fun h_ => ?_) (fun h_ => ?_)) | simp only [sZ, initT, optI, splice, reduceIte, reduceCtorEq, Nat.reduceEqDiff, Nat.reduceAdd, Nat.reduceSub, Nat.reduceMul, Nat.reduceLeDiff, Nat.reduceLT, Int.reduceLT, Int.reduceLE, Int.reduceToNat, Int.reduceEq, Int.cast_ofNat_Int, *, f1, decide_true, decide_false, -hV', -hf1, -hf2, -hf3, -hf4, -hf5, -hf6, -hf7, -hf8, -hb, -hob, -hs0, -hs1, -hs2])
      all_goals refine OutQ.lek (by repeat (first | exact SExt.refl _ | (refine SExt.old ?_ (by first | (simp only [*]; done) | (simp only [upd_none]; assumption) | (simp only [upd_none, *, not_false_eq_true, and_self]; done)) _))) hk1 ?_
      all_goals have hVV : ∀ b : Bool, V = b → A.le (.bool b) (.bool V) := fun b h => by rw [h]; exact A.le_refl _
      all_goals refine hVV _ ?_
      all_goals rw [hV']
      all_goals clear hV' hVV hb hob hs0 hs1 hs2
      all_goals simp_all only [Bool.not_eq_true', Bool.not_eq_false', Bool.not_not, Bool.not_true, Bool.not_false, Bool.and_true, Bool.true_and, Bool.and_false, Bool.false_and, Bool.or_true, Bool.true_or, Bool.or_false, Bool.false_or]
  by_cases c4 : op = 4
  · subst c4
    have hE : bareE ⟨4, id, ot, no, x, y, ke, va, re, ob⟩ = ⟨4, ⟨#[]⟩, ot, no, x, y, ke, va, [], ob⟩ := rfl
    rw [hE] at hb
    simp only [encEdit, zeroObj, hmapnil] at hb
    generalize hV : validR ⟨4, id, ot, no, x, y, ke, va, re, ob⟩ = V
    have hV' : V = (!bareB (⟨4, ⟨#[]⟩, ot, no, x, y, ke, va, [], ob⟩ : Edit) && ((id :: re).all nameF && (!(decide ((4 : Int) = 4) && (decide ((re.length : Int) < 1) || decide ((2000 : Int) < re.length))) && (decide ((va.size : Int) ≤ 200) && (!decide ((4 : Int) = 2) || gridF x y))))) := by rw [← hV]; rfl
    clear hV
    generalize hBB : bareB (⟨4, ⟨#[]⟩, ot, no, x, y, ke, va, [], ob⟩ : Edit) = BB at hV'
    simp only [bareB, zeroObj] at hBB
    simp only [sZ, initT, optI, splice, reduceIte, reduceCtorEq, Nat.reduceEqDiff, Nat.reduceAdd, Nat.reduceSub, Nat.reduceMul, Nat.reduceLeDiff, Nat.reduceLT, Int.reduceLT, Int.reduceLE, Int.reduceToNat, Int.reduceEq, Int.cast_ofNat_Int, f1, decide_true, decide_false]
    refine callS_quiet (hb _ _) ?_
    simp only [sZ, initT, optI, splice, reduceIte, reduceCtorEq, Nat.reduceEqDiff, Nat.reduceAdd, Nat.reduceSub, Nat.reduceMul, Nat.reduceLeDiff, Nat.reduceLT, Int.reduceLT, Int.reduceLE, Int.reduceToNat, Int.reduceEq, Int.cast_ofNat_Int, f1, decide_true, decide_false]
    (with_reducible refine newS_in ?_); intro b3 f3; simp only [upd_none] at f3
    simp only [sZ, initT, optI, splice, reduceIte, reduceCtorEq, Nat.reduceEqDiff, Nat.reduceAdd, Nat.reduceSub, Nat.reduceMul, Nat.reduceLeDiff, Nat.reduceLT, Int.reduceLT, Int.reduceLE, Int.reduceToNat, Int.reduceEq, Int.cast_ofNat_Int, f1, f3, decide_true, decide_false]
    have hout : ∀ t k1, BB = true → OutQ s k (.bool V) (.bool false) ⟨t, upd (upd s b1 (some (.cells [.int .i64 4, .str id, .str ot, .str no, .int .i64 x, .int .i64 y, .str ke, .str va, .sl 1 (re.map encStr) .no, .str ob.id, .int .i64 ob.kind, .int .i64 ob.x, .int .i64 ob.y, .sl 1 (ob.refs.map encStr) .no, .sl 2 (ob.tags.map encTag) .no]))) b3 (some (.cells (encEdit ⟨4, ⟨#[]⟩, ot, no, x, y, ke, va, [], ob⟩))), k1⟩ → True := fun _ _ _ _ => trivial
    clear hout
    repeat' (first | (refine callS_quiet (hs0 _ _) ?_) | (first | (with_reducible refine newS_in ?_; intro _ hid_; simp only [upd_none] at hid_) | (with_reducible refine newR_in ?_; intro _ hid_ hih_; simp only [upd_none, upd_none', rr_eqs2, and_true] at hid_ hih_) | (with_reducible refine mkmS_in ?_; intro _ hid_; simp only [upd_none] at hid_)) | (with_reducible refine brC_in (fun h_ => ?_) (fun h_ => ?_)) | (with_reducible refine brG_in (fun h_ => ?_) (fun h_ => ?_)) | (with_reducible refine brN_in (fun h_ => ?_) (fun h_ => ?_)) | simp only [sZ, initT, optI, splice, reduceIte, reduceCtorEq, Nat.reduceEqDiff, Nat.reduceAdd, Nat.reduceSub, Nat.reduceMul, Nat.reduceLeDiff, Nat.reduceLT, Int.reduceLT, Int.reduceLE, Int.reduceToNat, Int.reduceEq, Int.cast_ofNat_Int, *, f1, f3, fit_pt, eq_pt, d0, decide_true, decide_false, -hBB, -hV', -hf1, -hf2, -hf3, -hf4, -hf5, -hf6, -hf7, -hf8, -hb, -hob, -hs0, -hs1, -hs2])
    all_goals first | (refine OutQ.eq (by repeat (first | exact SExt.refl _ | (refine SExt.old ?_ (by first | (simp only [*]; done) | (simp only [upd_none]; assumption) | (simp only [upd_none, *, not_false_eq_true, and_self]; done)) _))) ?_; have hBt : BB = true := (by rw [← hBB]; clear hBB hV' hb hob hs0 hs1 hs2; simp_all; done); rw [hV', hBt]; rfl) | skip
    all_goals have hBf : BB = false := by rw [← hBB]; clear hBB hV' hb hob hs0 hs1 hs2; simp_all
    all_goals rw [hBf, Bool.not_false, Bool.true_and] at hV'
    all_goals clear hBB hBf
    refine app_in (KExt.refl _) (.inr (.inl rfl)) (by simp; omega) fun tok1 k1 hk1 htok1 => ?_
    simp only [sZ, initT, optI, splice, reduceIte, reduceCtorEq, Nat.reduceEqDiff, Nat.reduceAdd, Nat.reduceSub, Nat.reduceMul, Nat.reduceLeDiff, Nat.reduceLT, Int.reduceLT, Int.reduceLE, Int.reduceToNat, Int.reduceEq, Int.cast_ofNat_Int, f1, f3, decide_true, decide_false]
    obtain ⟨ns, hns⟩ : ∃ ns : List ByteArray, ns = (id :: re) := ⟨_, rfl⟩
    have hsz : ∀ x ∈ ns, x.size < 4611686018427387904 := by
      rw [hns]
      intro x hx
      simp only [List.mem_cons, List.not_mem_nil, or_false] at hx
      rcases hx with rfl | hx
      all_goals first | assumption | (subst hx; assumption) | exact hf7 _ hx | (rcases hx with rfl | rfl <;> assumption)
    have hnl : ns.length ≤ 1000001 := by rw [hns]; simp; try omega
    rw [← hns] at hV'
    refine loop_L (α := Unit) ns.length (fun j _ => [(1, .ptr b1 0), (4, .sl 1 (ns.map encStr) .no), (5, .int .i64 j)]) (fun _ _ => upd s b1 (some (.cells [.int .i64 4, .str id, .str ot, .str no, .int .i64 x, .int .i64 y, .str ke, .str va, .sl 1 (re.map encStr) .no, .str ob.id, .int .i64 ob.kind, .int .i64 ob.x, .int .i64 ob.y, .sl 1 (ob.refs.map encStr) .no, .sl 2 (ob.tags.map encTag) .no]))) (fun _ _ => k1) (fun j _ => ∀ i (h : i < ns.length), i < j → nameF ns[i] = true) () (by repeat (first | exact SExt.refl _ | (refine SExt.old ?_ (by first | (simp only [*]; done) | (simp only [upd_none]; assumption) | (simp only [upd_none, *, not_false_eq_true, and_self]; done)) _))) rfl (by rw [hns]; exact (by (try simp only [TabLe_cons, TabLe_nil, tab_cons, tab_nil, upd_apply, Nat.reduceEqDiff, reduceIte, and_true]); repeat' (first | exact trivial | exact A.le_refl _ | exact le_strip_no _ _ _ | exact A.le_no _ _ _ | exact A.le_empty _ _ _ | refine And.intro ?_ ?_))) (fun i _ h => by omega) ?_
    clear hns
    rintro j ⟨⟩ hj hall
    try dsimp only
    simp only [sZ, initT, optI, splice, reduceIte, reduceCtorEq, Nat.reduceEqDiff, Nat.reduceAdd, Nat.reduceSub, Nat.reduceMul, Nat.reduceLeDiff, Nat.reduceLT, Int.reduceLT, Int.reduceLE, Int.reduceToNat, Int.reduceEq, Int.cast_ofNat_Int, f1]
    refine brC_in (fun hlt => ?_) (fun hge => ?_)
    · have hj' : j < ns.length := by have := of_decide_eq_true hlt; omega
      clear hlt
      have hw := wrap_succ hj' (by omega)
      have hg : (ns.map encStr)[j]? = some (encStr ns[j]) := strE.get hj'
      simp only [sZ, initT, optI, splice, reduceIte, reduceCtorEq, Nat.reduceEqDiff, Nat.reduceAdd, Nat.reduceSub, Nat.reduceMul, Nat.reduceLeDiff, Nat.reduceLT, Int.reduceLT, Int.reduceLE, Int.reduceToNat, Int.reduceEq, Int.cast_ofNat_Int, f1, hg, get_str]
      refine callS_quiet (spec_Namer ns[j] (hsz _ (List.getElem_mem hj'))) ?_
      cases hn : nameF ns[j]
      · rw [hV', all_get_false hj' hn, Bool.false_and]
        simp only [sZ, initT, optI, splice, reduceIte, reduceCtorEq, Nat.reduceEqDiff, Nat.reduceAdd, Nat.reduceSub, Nat.reduceMul, Nat.reduceLeDiff, Nat.reduceLT, Int.reduceLT, Int.reduceLE, Int.reduceToNat, Int.reduceEq, Int.cast_ofNat_Int, f1, Bool.not_false]
        exact OutQ.lek (by repeat (first | exact SExt.refl _ | (refine SExt.old ?_ (by first | (simp only [*]; done) | (simp only [upd_none]; assumption) | (simp only [upd_none, *, not_false_eq_true, and_self]; done)) _))) hk1 (A.le_refl _)
      · simp only [sZ, initT, optI, splice, reduceIte, reduceCtorEq, Nat.reduceEqDiff, Nat.reduceAdd, Nat.reduceSub, Nat.reduceMul, Nat.reduceLeDiff, Nat.reduceLT, Int.reduceLT, Int.reduceLE, Int.reduceToNat, Int.reduceEq, Int.cast_ofNat_Int, f1, Bool.not_true, hw]
        refine next_L hj' () (SExt.refl _) rfl (by (try simp only [TabLe_cons, TabLe_nil, tab_cons, tab_nil, upd_apply, Nat.reduceEqDiff, reduceIte, and_true]); repeat' (first | exact trivial | exact A.le_refl _ | exact le_strip_no _ _ _ | exact A.le_no _ _ _ | exact A.le_empty _ _ _ | refine And.intro ?_ ?_)) fun i hi h3 => ?_
        by_cases hij : i = j
        · subst hij; exact hn
        · exact hall i hi (by omega)
    · have hje : j = ns.length := by have := of_decide_eq_false hge; omega
      subst hje
      rw [all_get_true fun i hi => hall i hi hi, Bool.true_and] at hV'
      simp only [Int.reduceEq, decide_true, decide_false, Bool.false_and, Bool.true_and, Bool.not_false, Bool.not_true, Bool.true_or, Bool.false_or, Bool.and_true] at hV'
      clear hall hge hj hsz hnl
      simp only [sZ, initT, optI, splice, reduceIte, reduceCtorEq, Nat.reduceEqDiff, Nat.reduceAdd, Nat.reduceSub, Nat.reduceMul, Nat.reduceLeDiff, Nat.reduceLT, Int.reduceLT, Int.reduceLE, Int.reduceToNat, Int.reduceEq, Int.cast_ofNat_Int, f1, decide_true, decide_false]
      repeat' (first | (refine callS_quiet (spec_gridR x y) ?_) | (first | (with_reducible refine newS_in ?_; intro _ hid_; simp only [upd_none] at hid_) | (with_reducible refine newR_in ?_; intro _ hid_ hih_; simp only [upd_none, upd_none', rr_eqs2, and_true] at hid_ hih_) | (with_reducible refine mkmS_in ?_; intro _ hid_; simp only [upd_none] at hid_)) | (with_reducible refine brC_in (fun h_ => ?_) (fun h_ => ?_)) | (with_reducible refine brG_in (fun h_ => ?_) (fun h_ => ?_)) | (with_reducible refine brN_in (fun h_ => ?_) (fun h_ => ?_)) | simp only [sZ, initT, optI, splice, reduceIte, reduceCtorEq, Nat.reduceEqDiff, Nat.reduceAdd, Nat.reduceSub, Nat.reduceMul, Nat.reduceLeDiff, Nat.reduceLT, Int.reduceLT, Int.reduceLE, Int.reduceToNat, Int.reduceEq, Int.cast_ofNat_Int, *, f1, decide_true, decide_false, -hV', -hf1, -hf2, -hf3, -hf4, -hf5, -hf6, -hf7, -hf8, -hb, -hob, -hs0, -hs1, -hs2])
      all_goals refine OutQ.lek (by repeat (first | exact SExt.refl _ | (refine SExt.old ?_ (by first | (simp only [*]; done) | (simp only [upd_none]; assumption) | (simp only [upd_none, *, not_false_eq_true, and_self]; done)) _))) hk1 ?_
      all_goals have hVV : ∀ b : Bool, V = b → A.le (.bool b) (.bool V) := fun b h => by rw [h]; exact A.le_refl _
      all_goals refine hVV _ ?_
      all_goals rw [hV']
      all_goals clear hV' hVV hb hob hs0 hs1 hs2
      all_goals simp_all only [Bool.not_eq_true', Bool.not_eq_false', Bool.not_not, Bool.not_true, Bool.not_false, Bool.and_true, Bool.true_and, Bool.and_false, Bool.false_and, Bool.or_true, Bool.true_or, Bool.or_false, Bool.false_or]
  by_cases c5 : op = 5
  · subst c5
    have hE : bareE ⟨5, id, ot, no, x, y, ke, va, re, ob⟩ = ⟨5, ⟨#[]⟩, ot, no, x, y, ke, va, re, ob⟩ := rfl
    rw [hE] at hb
    simp only [encEdit, zeroObj, hmapnil] at hb
    generalize hV : validR ⟨5, id, ot, no, x, y, ke, va, re, ob⟩ = V
    have hV' : V = (!bareB (⟨5, ⟨#[]⟩, ot, no, x, y, ke, va, re, ob⟩ : Edit) && ([id].all nameF && (!(decide ((5 : Int) = 4) && (decide ((re.length : Int) < 1) || decide ((2000 : Int) < re.length))) && (decide ((va.size : Int) ≤ 200) && (!decide ((5 : Int) = 2) || gridF x y))))) := by rw [← hV]; rfl
    clear hV
    generalize hBB : bareB (⟨5, ⟨#[]⟩, ot, no, x, y, ke, va, re, ob⟩ : Edit) = BB at hV'
    simp only [bareB, zeroObj] at hBB
    simp only [sZ, initT, optI, splice, reduceIte, reduceCtorEq, Nat.reduceEqDiff, Nat.reduceAdd, Nat.reduceSub, Nat.reduceMul, Nat.reduceLeDiff, Nat.reduceLT, Int.reduceLT, Int.reduceLE, Int.reduceToNat, Int.reduceEq, Int.cast_ofNat_Int, f1, decide_true, decide_false]
    refine callS_quiet (hb _ _) ?_
    simp only [sZ, initT, optI, splice, reduceIte, reduceCtorEq, Nat.reduceEqDiff, Nat.reduceAdd, Nat.reduceSub, Nat.reduceMul, Nat.reduceLeDiff, Nat.reduceLT, Int.reduceLT, Int.reduceLE, Int.reduceToNat, Int.reduceEq, Int.cast_ofNat_Int, f1, decide_true, decide_false]
    (with_reducible refine newS_in ?_); intro b3 f3; simp only [upd_none] at f3
    simp only [sZ, initT, optI, splice, reduceIte, reduceCtorEq, Nat.reduceEqDiff, Nat.reduceAdd, Nat.reduceSub, Nat.reduceMul, Nat.reduceLeDiff, Nat.reduceLT, Int.reduceLT, Int.reduceLE, Int.reduceToNat, Int.reduceEq, Int.cast_ofNat_Int, f1, f3, decide_true, decide_false]
    have hout : ∀ t k1, BB = true → OutQ s k (.bool V) (.bool false) ⟨t, upd (upd s b1 (some (.cells [.int .i64 5, .str id, .str ot, .str no, .int .i64 x, .int .i64 y, .str ke, .str va, .sl 1 (re.map encStr) .no, .str ob.id, .int .i64 ob.kind, .int .i64 ob.x, .int .i64 ob.y, .sl 1 (ob.refs.map encStr) .no, .sl 2 (ob.tags.map encTag) .no]))) b3 (some (.cells (encEdit ⟨5, ⟨#[]⟩, ot, no, x, y, ke, va, re, ob⟩))), k1⟩ → True := fun _ _ _ _ => trivial
    clear hout
    repeat' (first | (refine callS_quiet (hs0 _ _) ?_) | (first | (with_reducible refine newS_in ?_; intro _ hid_; simp only [upd_none] at hid_) | (with_reducible refine newR_in ?_; intro _ hid_ hih_; simp only [upd_none, upd_none', rr_eqs2, and_true] at hid_ hih_) | (with_reducible refine mkmS_in ?_; intro _ hid_; simp only [upd_none] at hid_)) | (with_reducible refine brC_in (fun h_ => ?_) (fun h_ => ?_)) | (with_reducible refine brG_in (fun h_ => ?_) (fun h_ => ?_)) | (with_reducible refine brN_in (fun h_ => ?_) (fun h_ => ?_)) | simp only [sZ, initT, optI, splice, reduceIte, reduceCtorEq, Nat.reduceEqDiff, Nat.reduceAdd, Nat.reduceSub, Nat.reduceMul, Nat.reduceLeDiff, Nat.reduceLT, Int.reduceLT, Int.reduceLE, Int.reduceToNat, Int.reduceEq, Int.cast_ofNat_Int, *, f1, f3, fit_pt, eq_pt, d0, decide_true, decide_false, -hBB, -hV', -hf1, -hf2, -hf3, -hf4, -hf5, -hf6, -hf7, -hf8, -hb, -hob, -hs0, -hs1, -hs2])
    all_goals first | (refine OutQ.eq (by repeat (first | exact SExt.refl _ | (refine SExt.old ?_ (by first | (simp only [*]; done) | (simp only [upd_none]; assumption) | (simp only [upd_none, *, not_false_eq_true, and_self]; done)) _))) ?_; have hBt : BB = true := (by rw [← hBB]; clear hBB hV' hb hob hs0 hs1 hs2; simp_all; done); rw [hV', hBt]; rfl) | skip
    all_goals have hBf : BB = false := by rw [← hBB]; clear hBB hV' hb hob hs0 hs1 hs2; simp_all
    all_goals rw [hBf, Bool.not_false, Bool.true_and] at hV'
    all_goals clear hBB hBf
    have hk1 : KExt k k := KExt.refl _
    obtain ⟨ns, hns⟩ : ∃ ns : List ByteArray, ns = [id] := ⟨_, rfl⟩
    have hsz : ∀ x ∈ ns, x.size < 4611686018427387904 := by
      rw [hns]
      intro x hx
      simp only [List.mem_cons, List.not_mem_nil, or_false] at hx
      rcases hx with rfl | hx
      all_goals first | assumption | (subst hx; assumption) | exact hf7 _ hx | (rcases hx with rfl | rfl <;> assumption)
    have hnl : ns.length ≤ 1000001 := by rw [hns]; simp; try omega
    rw [← hns] at hV'
    refine loop_L (α := Unit) ns.length (fun j _ => [(1, .ptr b1 0), (4, .sl 1 (ns.map encStr) .no), (5, .int .i64 j)]) (fun _ _ => upd s b1 (some (.cells [.int .i64 5, .str id, .str ot, .str no, .int .i64 x, .int .i64 y, .str ke, .str va, .sl 1 (re.map encStr) .no, .str ob.id, .int .i64 ob.kind, .int .i64 ob.x, .int .i64 ob.y, .sl 1 (ob.refs.map encStr) .no, .sl 2 (ob.tags.map encTag) .no]))) (fun _ _ => k) (fun j _ => ∀ i (h : i < ns.length), i < j → nameF ns[i] = true) () (by repeat (first | exact SExt.refl _ | (refine SExt.old ?_ (by first | (simp only [*]; done) | (simp only [upd_none]; assumption) | (simp only [upd_none, *, not_false_eq_true, and_self]; done)) _))) rfl (by rw [hns]; exact (by (try simp only [TabLe_cons, TabLe_nil, tab_cons, tab_nil, upd_apply, Nat.reduceEqDiff, reduceIte, and_true]); repeat' (first | exact trivial | exact A.le_refl _ | exact le_strip_no _ _ _ | exact A.le_no _ _ _ | exact A.le_empty _ _ _ | refine And.intro ?_ ?_))) (fun i _ h => by omega) ?_
    clear hns
    rintro j ⟨⟩ hj hall
    try dsimp only
    simp only [sZ, initT, optI, splice, reduceIte, reduceCtorEq, Nat.reduceEqDiff, Nat.reduceAdd, Nat.reduceSub, Nat.reduceMul, Nat.reduceLeDiff, Nat.reduceLT, Int.reduceLT, Int.reduceLE, Int.reduceToNat, Int.reduceEq, Int.cast_ofNat_Int, f1]
    refine brC_in (fun hlt => ?_) (fun hge => ?_)
    · have hj' : j < ns.length := by have := of_decide_eq_true hlt; omega
      clear hlt
      have hw := wrap_succ hj' (by omega)
      have hg : (ns.map encStr)[j]? = some (encStr ns[j]) := strE.get hj'
      simp only [sZ, initT, optI, splice, reduceIte, reduceCtorEq, Nat.reduceEqDiff, Nat.reduceAdd, Nat.reduceSub, Nat.reduceMul, Nat.reduceLeDiff, Nat.reduceLT, Int.reduceLT, Int.reduceLE, Int.reduceToNat, Int.reduceEq, Int.cast_ofNat_Int, f1, hg, get_str]
      refine callS_quiet (spec_Namer ns[j] (hsz _ (List.getElem_mem hj'))) ?_
      cases hn : nameF ns[j]
      · rw [hV', all_get_false hj' hn, Bool.false_and]
        simp only [sZ, initT, optI, splice, reduceIte, reduceCtorEq, Nat.reduceEqDiff, Nat.reduceAdd, Nat.reduceSub, Nat.reduceMul, Nat.reduceLeDiff, Nat.reduceLT, Int.reduceLT, Int.reduceLE, Int.reduceToNat, Int.reduceEq, Int.cast_ofNat_Int, f1, Bool.not_false]
        exact OutQ.lek (by repeat (first | exact SExt.refl _ | (refine SExt.old ?_ (by first | (simp only [*]; done) | (simp only [upd_none]; assumption) | (simp only [upd_none, *, not_false_eq_true, and_self]; done)) _))) hk1 (A.le_refl _)
      · simp only [sZ, initT, optI, splice, reduceIte, reduceCtorEq, Nat.reduceEqDiff, Nat.reduceAdd, Nat.reduceSub, Nat.reduceMul, Nat.reduceLeDiff, Nat.reduceLT, Int.reduceLT, Int.reduceLE, Int.reduceToNat, Int.reduceEq, Int.cast_ofNat_Int, f1, Bool.not_true, hw]
        refine next_L hj' () (SExt.refl _) rfl (by (try simp only [TabLe_cons, TabLe_nil, tab_cons, tab_nil, upd_apply, Nat.reduceEqDiff, reduceIte, and_true]); repeat' (first | exact trivial | exact A.le_refl _ | exact le_strip_no _ _ _ | exact A.le_no _ _ _ | exact A.le_empty _ _ _ | refine And.intro ?_ ?_)) fun i hi h3 => ?_
        by_cases hij : i = j
        · subst hij; exact hn
        · exact hall i hi (by omega)
    · have hje : j = ns.length := by have := of_decide_eq_false hge; omega
      subst hje
      rw [all_get_true fun i hi => hall i hi hi, Bool.true_and] at hV'
      simp only [Int.reduceEq, decide_true, decide_false, Bool.false_and, Bool.true_and, Bool.not_false, Bool.not_true, Bool.true_or, Bool.false_or, Bool.and_true] at hV'
      clear hall hge hj hsz hnl
      simp only [sZ, initT, optI, splice, reduceIte, reduceCtorEq, Nat.reduceEqDiff, Nat.reduceAdd, Nat.reduceSub, Nat.reduceMul, Nat.reduceLeDiff, Nat.reduceLT, Int.reduceLT, Int.reduceLE, Int.reduceToNat, Int.reduceEq, Int.cast_ofNat_Int, f1, decide_true, decide_false]
      repeat' (first | (refine callS_quiet (spec_gridR x y) ?_) | (first | (with_reducible refine newS_in ?_; intro _ hid_; simp only [upd_none] at hid_) | (with_reducible refine newR_in ?_; intro _ hid_ hih_; simp only [upd_none, upd_none', rr_eqs2, and_true] at hid_ hih_) | (with_reducible refine mkmS_in ?_; intro _ hid_; simp only [upd_none] at hid_)) | (with_reducible refine brC_in (fun h_ => ?_) (fun h_ => ?_)) | (with_reducible refine brG_in (fun h_ => ?_) (fun h_ => ?_)) | (with_reducible refine brN_in (fun h_ => ?_) (fun h_ => ?_)) | simp only [sZ, initT, optI, splice, reduceIte, reduceCtorEq, Nat.reduceEqDiff, Nat.reduceAdd, Nat.reduceSub, Nat.reduceMul, Nat.reduceLeDiff, Nat.reduceLT, Int.reduceLT, Int.reduceLE, Int.reduceToNat, Int.reduceEq, Int.cast_ofNat_Int, *, f1, decide_true, decide_false, -hV', -hf1, -hf2, -hf3, -hf4, -hf5, -hf6, -hf7, -hf8, -hb, -hob, -hs0, -hs1, -hs2])
      all_goals refine OutQ.lek (by repeat (first | exact SExt.refl _ | (refine SExt.old ?_ (by first | (simp only [*]; done) | (simp only [upd_none]; assumption) | (simp only [upd_none, *, not_false_eq_true, and_self]; done)) _))) hk1 ?_
      all_goals have hVV : ∀ b : Bool, V = b → A.le (.bool b) (.bool V) := fun b h => by rw [h]; exact A.le_refl _
      all_goals refine hVV _ ?_
      all_goals rw [hV']
      all_goals clear hV' hVV hb hob hs0 hs1 hs2
      all_goals simp_all only [Bool.not_eq_true', Bool.not_eq_false', Bool.not_not, Bool.not_true, Bool.not_false, Bool.and_true, Bool.true_and, Bool.and_false, Bool.false_and, Bool.or_true, Bool.true_or, Bool.or_false, Bool.false_or]
  by_cases c6 : op = 6
  · subst c6
    have hE : bareE ⟨6, id, ot, no, x, y, ke, va, re, ob⟩ = ⟨6, ⟨#[]⟩, ⟨#[]⟩, ⟨#[]⟩, x, y, ke, va, re, ob⟩ := rfl
    rw [hE] at hb
    simp only [encEdit, zeroObj, hmapnil] at hb
    generalize hV : validR ⟨6, id, ot, no, x, y, ke, va, re, ob⟩ = V
    have hV' : V = (!bareB (⟨6, ⟨#[]⟩, ⟨#[]⟩, ⟨#[]⟩, x, y, ke, va, re, ob⟩ : Edit) && ([id, no, ot].all nameF && (!(decide ((6 : Int) = 4) && (decide ((re.length : Int) < 1) || decide ((2000 : Int) < re.length))) && (decide ((va.size : Int) ≤ 200) && (!decide ((6 : Int) = 2) || gridF x y))))) := by rw [← hV]; rfl
    clear hV
    generalize hBB : bareB (⟨6, ⟨#[]⟩, ⟨#[]⟩, ⟨#[]⟩, x, y, ke, va, re, ob⟩ : Edit) = BB at hV'
    simp only [bareB, zeroObj] at hBB
    simp only [sZ, initT, optI, splice, reduceIte, reduceCtorEq, Nat.reduceEqDiff, Nat.reduceAdd, Nat.reduceSub, Nat.reduceMul, Nat.reduceLeDiff, Nat.reduceLT, Int.reduceLT, Int.reduceLE, Int.reduceToNat, Int.reduceEq, Int.cast_ofNat_Int, f1, decide_true, decide_false]
    refine callS_quiet (hb _ _) ?_
    simp only [sZ, initT, optI, splice, reduceIte, reduceCtorEq, Nat.reduceEqDiff, Nat.reduceAdd, Nat.reduceSub, Nat.reduceMul, Nat.reduceLeDiff, Nat.reduceLT, Int.reduceLT, Int.reduceLE, Int.reduceToNat, Int.reduceEq, Int.cast_ofNat_Int, f1, decide_true, decide_false]
    (with_reducible refine newS_in ?_); intro b3 f3; simp only [upd_none] at f3
    simp only [sZ, initT, optI, splice, reduceIte, reduceCtorEq, Nat.reduceEqDiff, Nat.reduceAdd, Nat.reduceSub, Nat.reduceMul, Nat.reduceLeDiff, Nat.reduceLT, Int.reduceLT, Int.reduceLE, Int.reduceToNat, Int.reduceEq, Int.cast_ofNat_Int, f1, f3, decide_true, decide_false]
    have hout : ∀ t k1, BB = true → OutQ s k (.bool V) (.bool false) ⟨t, upd (upd s b1 (some (.cells [.int .i64 6, .str id, .str ot, .str no, .int .i64 x, .int .i64 y, .str ke, .str va, .sl 1 (re.map encStr) .no, .str ob.id, .int .i64 ob.kind, .int .i64 ob.x, .int .i64 ob.y, .sl 1 (ob.refs.map encStr) .no, .sl 2 (ob.tags.map encTag) .no]))) b3 (some (.cells (encEdit ⟨6, ⟨#[]⟩, ⟨#[]⟩, ⟨#[]⟩, x, y, ke, va, re, ob⟩))), k1⟩ → True := fun _ _ _ _ => trivial
    clear hout
    repeat' (first | (refine callS_quiet (hs0 _ _) ?_) | (first | (with_reducible refine newS_in ?_; intro _ hid_; simp only [upd_none] at hid_) | (with_reducible refine newR_in ?_; intro _ hid_ hih_; simp only [upd_none, upd_none', rr_eqs2, and_true] at hid_ hih_) | (with_reducible refine mkmS_in ?_; intro _ hid_; simp only [upd_none] at hid_)) | (with_reducible refine brC_in (fun h_ => ?_) (fun h_ => ?_)) | (with_reducible refine brG_in (fun h_ => ?_) (fun h_ => ?_)) | (with_reducible refine brN_in (fun h_ => ?_) (fun h_ => ?_)) | simp only [sZ, initT, optI, splice, reduceIte, reduceCtorEq, Nat.reduceEqDiff, Nat.reduceAdd, Nat.reduceSub, Nat.reduceMul, Nat.reduceLeDiff, Nat.reduceLT, Int.reduceLT, Int.reduceLE, Int.reduceToNat, Int.reduceEq, Int.cast_ofNat_Int, *, f1, f3, fit_pt, eq_pt, d0, decide_true, decide_false, -hBB, -hV', -hf1, -hf2, -hf3, -hf4, -hf5, -hf6, -hf7, -hf8, -hb, -hob, -hs0, -hs1, -hs2])
    all_goals first | (refine OutQ.eq (by repeat (first | exact SExt.refl _ | (refine SExt.old ?_ (by first | (simp only [*]; done) | (simp only [upd_none]; assumption) | (simp only [upd_none, *, not_false_eq_true, and_self]; done)) _))) ?_; have hBt : BB = true := (by rw [← hBB]; clear hBB hV' hb hob hs0 hs1 hs2; simp_all; done); rw [hV', hBt]; rfl) | skip
    all_goals have hBf : BB = false := by rw [← hBB]; clear hBB hV' hb hob hs0 hs1 hs2; simp_all
    all_goals rw [hBf, Bool.not_false, Bool.true_and] at hV'
    all_goals clear hBB hBf
    refine app_in (KExt.refl _) (.inr (.inl rfl)) (by simp) fun tok0 k0 hk0 htok0 => ?_
    simp only [sZ, initT, optI, splice, reduceIte, reduceCtorEq, Nat.reduceEqDiff, Nat.reduceAdd, Nat.reduceSub, Nat.reduceMul, Nat.reduceLeDiff, Nat.reduceLT, Int.reduceLT, Int.reduceLE, Int.reduceToNat, Int.reduceEq, Int.cast_ofNat_Int, f1, f3, decide_true, decide_false]
    refine app_in hk0 htok0 (by simp) fun tok1 k1 hk1 htok1 => ?_
    simp only [sZ, initT, optI, splice, reduceIte, reduceCtorEq, Nat.reduceEqDiff, Nat.reduceAdd, Nat.reduceSub, Nat.reduceMul, Nat.reduceLeDiff, Nat.reduceLT, Int.reduceLT, Int.reduceLE, Int.reduceToNat, Int.reduceEq, Int.cast_ofNat_Int, f1, f3, decide_true, decide_false]
    obtain ⟨ns, hns⟩ : ∃ ns : List ByteArray, ns = [id, no, ot] := ⟨_, rfl⟩
    have hsz : ∀ x ∈ ns, x.size < 4611686018427387904 := by
      rw [hns]
      intro x hx
      simp only [List.mem_cons, List.not_mem_nil, or_false] at hx
      rcases hx with rfl | hx
      all_goals first | assumption | (subst hx; assumption) | exact hf7 _ hx | (rcases hx with rfl | rfl <;> assumption)
    have hnl : ns.length ≤ 1000001 := by rw [hns]; simp; try omega
    rw [← hns] at hV'
    refine loop_L (α := Unit) ns.length (fun j _ => [(1, .ptr b1 0), (4, .sl 1 (ns.map encStr) .no), (5, .int .i64 j)]) (fun _ _ => upd s b1 (some (.cells [.int .i64 6, .str id, .str ot, .str no, .int .i64 x, .int .i64 y, .str ke, .str va, .sl 1 (re.map encStr) .no, .str ob.id, .int .i64 ob.kind, .int .i64 ob.x, .int .i64 ob.y, .sl 1 (ob.refs.map encStr) .no, .sl 2 (ob.tags.map encTag) .no]))) (fun _ _ => k1) (fun j _ => ∀ i (h : i < ns.length), i < j → nameF ns[i] = true) () (by repeat (first | exact SExt.refl _ | (refine SExt.old ?_ (by first | (simp only [*]; done) | (simp only [upd_none]; assumption) | (simp only [upd_none, *, not_false_eq_true, and_self]; done)) _))) rfl (by rw [hns]; exact (by (try simp only [TabLe_cons, TabLe_nil, tab_cons, tab_nil, upd_apply, Nat.reduceEqDiff, reduceIte, and_true]); repeat' (first | exact trivial | exact A.le_refl _ | exact le_strip_no _ _ _ | exact A.le_no _ _ _ | exact A.le_empty _ _ _ | refine And.intro ?_ ?_))) (fun i _ h => by omega) ?_
    clear hns
    rintro j ⟨⟩ hj hall
    try dsimp only
    simp only [sZ, initT, optI, splice, reduceIte, reduceCtorEq, Nat.reduceEqDiff, Nat.reduceAdd, Nat.reduceSub, Nat.reduceMul, Nat.reduceLeDiff, Nat.reduceLT, Int.reduceLT, Int.reduceLE, Int.reduceToNat, Int.reduceEq, Int.cast_ofNat_Int, f1]
    refine brC_in (fun hlt => ?_) (fun hge => ?_)
    · have hj' : j < ns.length := by have := of_decide_eq_true hlt; omega
      clear hlt
      have hw := wrap_succ hj' (by omega)
      have hg : (ns.map encStr)[j]? = some (encStr ns[j]) := strE.get hj'
      simp only [sZ, initT, optI, splice, reduceIte, reduceCtorEq, Nat.reduceEqDiff, Nat.reduceAdd, Nat.reduceSub, Nat.reduceMul, Nat.reduceLeDiff, Nat.reduceLT, Int.reduceLT, Int.reduceLE, Int.reduceToNat, Int.reduceEq, Int.cast_ofNat_Int, f1, hg, get_str]
      refine callS_quiet (spec_Namer ns[j] (hsz _ (List.getElem_mem hj'))) ?_
      cases hn : nameF ns[j]
      · rw [hV', all_get_false hj' hn, Bool.false_and]
        simp only [sZ, initT, optI, splice, reduceIte, reduceCtorEq, Nat.reduceEqDiff, Nat.reduceAdd, Nat.reduceSub, Nat.reduceMul, Nat.reduceLeDiff, Nat.reduceLT, Int.reduceLT, Int.reduceLE, Int.reduceToNat, Int.reduceEq, Int.cast_ofNat_Int, f1, Bool.not_false]
        exact OutQ.lek (by repeat (first | exact SExt.refl _ | (refine SExt.old ?_ (by first | (simp only [*]; done) | (simp only [upd_none]; assumption) | (simp only [upd_none, *, not_false_eq_true, and_self]; done)) _))) hk1 (A.le_refl _)
      · simp only [sZ, initT, optI, splice, reduceIte, reduceCtorEq, Nat.reduceEqDiff, Nat.reduceAdd, Nat.reduceSub, Nat.reduceMul, Nat.reduceLeDiff, Nat.reduceLT, Int.reduceLT, Int.reduceLE, Int.reduceToNat, Int.reduceEq, Int.cast_ofNat_Int, f1, Bool.not_true, hw]
        refine next_L hj' () (SExt.refl _) rfl (by (try simp only [TabLe_cons, TabLe_nil, tab_cons, tab_nil, upd_apply, Nat.reduceEqDiff, reduceIte, and_true]); repeat' (first | exact trivial | exact A.le_refl _ | exact le_strip_no _ _ _ | exact A.le_no _ _ _ | exact A.le_empty _ _ _ | refine And.intro ?_ ?_)) fun i hi h3 => ?_
        by_cases hij : i = j
        · subst hij; exact hn
        · exact hall i hi (by omega)
    · have hje : j = ns.length := by have := of_decide_eq_false hge; omega
      subst hje
      rw [all_get_true fun i hi => hall i hi hi, Bool.true_and] at hV'
      simp only [Int.reduceEq, decide_true, decide_false, Bool.false_and, Bool.true_and, Bool.not_false, Bool.not_true, Bool.true_or, Bool.false_or, Bool.and_true] at hV'
      clear hall hge hj hsz hnl
      simp only [sZ, initT, optI, splice, reduceIte, reduceCtorEq, Nat.reduceEqDiff, Nat.reduceAdd, Nat.reduceSub, Nat.reduceMul, Nat.reduceLeDiff, Nat.reduceLT, Int.reduceLT, Int.reduceLE, Int.reduceToNat, Int.reduceEq, Int.cast_ofNat_Int, f1, decide_true, decide_false]
      repeat' (first | (refine callS_quiet (spec_gridR x y) ?_) | (first | (with_reducible refine newS_in ?_; intro _ hid_; simp only [upd_none] at hid_) | (with_reducible refine newR_in ?_; intro _ hid_ hih_; simp only [upd_none, upd_none', rr_eqs2, and_true] at hid_ hih_) | (with_reducible refine mkmS_in ?_; intro _ hid_; simp only [upd_none] at hid_)) | (with_reducible refine brC_in (fun h_ => ?_) (fun h_ => ?_)) | (with_reducible refine brG_in (fun h_ => ?_) (fun h_ => ?_)) | (with_reducible refine brN_in (fun h_ => ?_) (fun h_ => ?_)) | simp only [sZ, initT, optI, splice, reduceIte, reduceCtorEq, Nat.reduceEqDiff, Nat.reduceAdd, Nat.reduceSub, Nat.reduceMul, Nat.reduceLeDiff, Nat.reduceLT, Int.reduceLT, Int.reduceLE, Int.reduceToNat, Int.reduceEq, Int.cast_ofNat_Int, *, f1, decide_true, decide_false, -hV', -hf1, -hf2, -hf3, -hf4, -hf5, -hf6, -hf7, -hf8, -hb, -hob, -hs0, -hs1, -hs2])
      all_goals refine OutQ.lek (by repeat (first | exact SExt.refl _ | (refine SExt.old ?_ (by first | (simp only [*]; done) | (simp only [upd_none]; assumption) | (simp only [upd_none, *, not_false_eq_true, and_self]; done)) _))) hk1 ?_
      all_goals have hVV : ∀ b : Bool, V = b → A.le (.bool b) (.bool V) := fun b h => by rw [h]; exact A.le_refl _
      all_goals refine hVV _ ?_
      all_goals rw [hV']
      all_goals clear hV' hVV hb hob hs0 hs1 hs2
      all_goals simp_all only [Bool.not_eq_true', Bool.not_eq_false', Bool.not_not, Bool.not_true, Bool.not_false, Bool.and_true, Bool.true_and, Bool.and_false, Bool.false_and, Bool.or_true, Bool.true_or, Bool.or_false, Bool.false_or]
  by_cases c7 : op = 7
  · subst c7
    have hE : bareE ⟨7, id, ot, no, x, y, ke, va, re, ob⟩ = ⟨7, ⟨#[]⟩, ⟨#[]⟩, no, x, y, ke, va, re, ob⟩ := rfl
    rw [hE] at hb
    simp only [encEdit, zeroObj, hmapnil] at hb
    generalize hV : validR ⟨7, id, ot, no, x, y, ke, va, re, ob⟩ = V
    have hV' : V = (!bareB (⟨7, ⟨#[]⟩, ⟨#[]⟩, no, x, y, ke, va, re, ob⟩ : Edit) && ([id, ot].all nameF && (!(decide ((7 : Int) = 4) && (decide ((re.length : Int) < 1) || decide ((2000 : Int) < re.length))) && (decide ((va.size : Int) ≤ 200) && (!decide ((7 : Int) = 2) || gridF x y))))) := by rw [← hV]; rfl
    clear hV
    generalize hBB : bareB (⟨7, ⟨#[]⟩, ⟨#[]⟩, no, x, y, ke, va, re, ob⟩ : Edit) = BB at hV'
    simp only [bareB, zeroObj] at hBB
    simp only [sZ, initT, optI, splice, reduceIte, reduceCtorEq, Nat.reduceEqDiff, Nat.reduceAdd, Nat.reduceSub, Nat.reduceMul, Nat.reduceLeDiff, Nat.reduceLT, Int.reduceLT, Int.reduceLE, Int.reduceToNat, Int.reduceEq, Int.cast_ofNat_Int, f1, decide_true, decide_false]
    refine callS_quiet (hb _ _) ?_
    simp only [sZ, initT, optI, splice, reduceIte, reduceCtorEq, Nat.reduceEqDiff, Nat.reduceAdd, Nat.reduceSub, Nat.reduceMul, Nat.reduceLeDiff, Nat.reduceLT, Int.reduceLT, Int.reduceLE, Int.reduceToNat, Int.reduceEq, Int.cast_ofNat_Int, f1, decide_true, decide_false]
    (with_reducible refine newS_in ?_); intro b3 f3; simp only [upd_none] at f3
    simp only [sZ, initT, optI, splice, reduceIte, reduceCtorEq, Nat.reduceEqDiff, Nat.reduceAdd, Nat.reduceSub, Nat.reduceMul, Nat.reduceLeDiff, Nat.reduceLT, Int.reduceLT, Int.reduceLE, Int.reduceToNat, Int.reduceEq, Int.cast_ofNat_Int, f1, f3, decide_true, decide_false]
    have hout : ∀ t k1, BB = true → OutQ s k (.bool V) (.bool false) ⟨t, upd (upd s b1 (some (.cells [.int .i64 7, .str id, .str ot, .str no, .int .i64 x, .int .i64 y, .str ke, .str va, .sl 1 (re.map encStr) .no, .str ob.id, .int .i64 ob.kind, .int .i64 ob.x, .int .i64 ob.y, .sl 1 (ob.refs.map encStr) .no, .sl 2 (ob.tags.map encTag) .no]))) b3 (some (.cells (encEdit ⟨7, ⟨#[]⟩, ⟨#[]⟩, no, x, y, ke, va, re, ob⟩))), k1⟩ → True := fun _ _ _ _ => trivial
    clear hout
    repeat' (first | (refine callS_quiet (hs0 _ _) ?_) | (first | (with_reducible refine newS_in ?_; intro _ hid_; simp only [upd_none] at hid_) | (with_reducible refine newR_in ?_; intro _ hid_ hih_; simp only [upd_none, upd_none', rr_eqs2, and_true] at hid_ hih_) | (with_reducible refine mkmS_in ?_; intro _ hid_; simp only [upd_none] at hid_)) | (with_reducible refine brC_in (fun h_ => ?_) (fun h_ => ?_)) | (with_reducible refine brG_in (fun h_ => ?_) (fun h_ => ?_)) | (with_reducible refine brN_in (fun h_ => ?_) (fun h_ => ?_)) | simp only [sZ, initT, optI, splice, reduceIte, reduceCtorEq, Nat.reduceEqDiff, Nat.reduceAdd, Nat.reduceSub, Nat.reduceMul, Nat.reduceLeDiff, Nat.reduceLT, Int.reduceLT, Int.reduceLE, Int.reduceToNat, Int.reduceEq, Int.cast_ofNat_Int, *, f1, f3, fit_pt, eq_pt, d0, decide_true, decide_false, -hBB, -hV', -hf1, -hf2, -hf3, -hf4, -hf5, -hf6, -hf7, -hf8, -hb, -hob, -hs0, -hs1, -hs2])
    all_goals first | (refine OutQ.eq (by repeat (first | exact SExt.refl _ | (refine SExt.old ?_ (by first | (simp only [*]; done) | (simp only [upd_none]; assumption) | (simp only [upd_none, *, not_false_eq_true, and_self]; done)) _))) ?_; have hBt : BB = true := (by rw [← hBB]; clear hBB hV' hb hob hs0 hs1 hs2; simp_all; done); rw [hV', hBt]; rfl) | skip
    all_goals have hBf : BB = false := by rw [← hBB]; clear hBB hV' hb hob hs0 hs1 hs2; simp_all
    all_goals rw [hBf, Bool.not_false, Bool.true_and] at hV'
    all_goals clear hBB hBf
    refine app_in (KExt.refl _) (.inr (.inl rfl)) (by simp) fun tok1 k1 hk1 htok1 => ?_
    simp only [sZ, initT, optI, splice, reduceIte, reduceCtorEq, Nat.reduceEqDiff, Nat.reduceAdd, Nat.reduceSub, Nat.reduceMul, Nat.reduceLeDiff, Nat.reduceLT, Int.reduceLT, Int.reduceLE, Int.reduceToNat, Int.reduceEq, Int.cast_ofNat_Int, f1, f3, decide_true, decide_false]
    obtain ⟨ns, hns⟩ : ∃ ns : List ByteArray, ns = [id, ot] := ⟨_, rfl⟩
    have hsz : ∀ x ∈ ns, x.size < 4611686018427387904 := by
      rw [hns]
      intro x hx
      simp only [List.mem_cons, List.not_mem_nil, or_false] at hx
      rcases hx with rfl | hx
      all_goals first | assumption | (subst hx; assumption) | exact hf7 _ hx | (rcases hx with rfl | rfl <;> assumption)
    have hnl : ns.length ≤ 1000001 := by rw [hns]; simp; try omega
    rw [← hns] at hV'
    refine loop_L (α := Unit) ns.length (fun j _ => [(1, .ptr b1 0), (4, .sl 1 (ns.map encStr) .no), (5, .int .i64 j)]) (fun _ _ => upd s b1 (some (.cells [.int .i64 7, .str id, .str ot, .str no, .int .i64 x, .int .i64 y, .str ke, .str va, .sl 1 (re.map encStr) .no, .str ob.id, .int .i64 ob.kind, .int .i64 ob.x, .int .i64 ob.y, .sl 1 (ob.refs.map encStr) .no, .sl 2 (ob.tags.map encTag) .no]))) (fun _ _ => k1) (fun j _ => ∀ i (h : i < ns.length), i < j → nameF ns[i] = true) () (by repeat (first | exact SExt.refl _ | (refine SExt.old ?_ (by first | (simp only [*]; done) | (simp only [upd_none]; assumption) | (simp only [upd_none, *, not_false_eq_true, and_self]; done)) _))) rfl (by rw [hns]; exact (by (try simp only [TabLe_cons, TabLe_nil, tab_cons, tab_nil, upd_apply, Nat.reduceEqDiff, reduceIte, and_true]); repeat' (first | exact trivial | exact A.le_refl _ | exact le_strip_no _ _ _ | exact A.le_no _ _ _ | exact A.le_empty _ _ _ | refine And.intro ?_ ?_))) (fun i _ h => by omega) ?_
    clear hns
    rintro j ⟨⟩ hj hall
    try dsimp only
    simp only [sZ, initT, optI, splice, reduceIte, reduceCtorEq, Nat.reduceEqDiff, Nat.reduceAdd, Nat.reduceSub, Nat.reduceMul, Nat.reduceLeDiff, Nat.reduceLT, Int.reduceLT, Int.reduceLE, Int.reduceToNat, Int.reduceEq, Int.cast_ofNat_Int, f1]
    refine brC_in (fun hlt => ?_) (fun hge => ?_)
    · have hj' : j < ns.length := by have := of_decide_eq_true hlt; omega
      clear hlt
      have hw := wrap_succ hj' (by omega)
      have hg : (ns.map encStr)[j]? = some (encStr ns[j]) := strE.get hj'
      simp only [sZ, initT, optI, splice, reduceIte, reduceCtorEq, Nat.reduceEqDiff, Nat.reduceAdd, Nat.reduceSub, Nat.reduceMul, Nat.reduceLeDiff, Nat.reduceLT, Int.reduceLT, Int.reduceLE, Int.reduceToNat, Int.reduceEq, Int.cast_ofNat_Int, f1, hg, get_str]
      refine callS_quiet (spec_Namer ns[j] (hsz _ (List.getElem_mem hj'))) ?_
      cases hn : nameF ns[j]
      · rw [hV', all_get_false hj' hn, Bool.false_and]
        simp only [sZ, initT, optI, splice, reduceIte, reduceCtorEq, Nat.reduceEqDiff, Nat.reduceAdd, Nat.reduceSub, Nat.reduceMul, Nat.reduceLeDiff, Nat.reduceLT, Int.reduceLT, Int.reduceLE, Int.reduceToNat, Int.reduceEq, Int.cast_ofNat_Int, f1, Bool.not_false]
        exact OutQ.lek (by repeat (first | exact SExt.refl _ | (refine SExt.old ?_ (by first | (simp only [*]; done) | (simp only [upd_none]; assumption) | (simp only [upd_none, *, not_false_eq_true, and_self]; done)) _))) hk1 (A.le_refl _)
      · simp only [sZ, initT, optI, splice, reduceIte, reduceCtorEq, Nat.reduceEqDiff, Nat.reduceAdd, Nat.reduceSub, Nat.reduceMul, Nat.reduceLeDiff, Nat.reduceLT, Int.reduceLT, Int.reduceLE, Int.reduceToNat, Int.reduceEq, Int.cast_ofNat_Int, f1, Bool.not_true, hw]
        refine next_L hj' () (SExt.refl _) rfl (by (try simp only [TabLe_cons, TabLe_nil, tab_cons, tab_nil, upd_apply, Nat.reduceEqDiff, reduceIte, and_true]); repeat' (first | exact trivial | exact A.le_refl _ | exact le_strip_no _ _ _ | exact A.le_no _ _ _ | exact A.le_empty _ _ _ | refine And.intro ?_ ?_)) fun i hi h3 => ?_
        by_cases hij : i = j
        · subst hij; exact hn
        · exact hall i hi (by omega)
    · have hje : j = ns.length := by have := of_decide_eq_false hge; omega
      subst hje
      rw [all_get_true fun i hi => hall i hi hi, Bool.true_and] at hV'
      simp only [Int.reduceEq, decide_true, decide_false, Bool.false_and, Bool.true_and, Bool.not_false, Bool.not_true, Bool.true_or, Bool.false_or, Bool.and_true] at hV'
      clear hall hge hj hsz hnl
      simp only [sZ, initT, optI, splice, reduceIte, reduceCtorEq, Nat.reduceEqDiff, Nat.reduceAdd, Nat.reduceSub, Nat.reduceMul, Nat.reduceLeDiff, Nat.reduceLT, Int.reduceLT, Int.reduceLE, Int.reduceToNat, Int.reduceEq, Int.cast_ofNat_Int, f1, decide_true, decide_false]
      repeat' (first | (refine callS_quiet (spec_gridR x y) ?_) | (first | (with_reducible refine newS_in ?_; intro _ hid_; simp only [upd_none] at hid_) | (with_reducible refine newR_in ?_; intro _ hid_ hih_; simp only [upd_none, upd_none', rr_eqs2, and_true] at hid_ hih_) | (with_reducible refine mkmS_in ?_; intro _ hid_; simp only [upd_none] at hid_)) | (with_reducible refine brC_in (fun h_ => ?_) (fun h_ => ?_)) | (with_reducible refine brG_in (fun h_ => ?_) (fun h_ => ?_)) | (with_reducible refine brN_in (fun h_ => ?_) (fun h_ => ?_)) | simp only [sZ, initT, optI, splice, reduceIte, reduceCtorEq, Nat.reduceEqDiff, Nat.reduceAdd, Nat.reduceSub, Nat.reduceMul, Nat.reduceLeDiff, Nat.reduceLT, Int.reduceLT, Int.reduceLE, Int.reduceToNat, Int.reduceEq, Int.cast_ofNat_Int, *, f1, decide_true, decide_false, -hV', -hf1, -hf2, -hf3, -hf4, -hf5, -hf6, -hf7, -hf8, -hb, -hob, -hs0, -hs1, -hs2])
      all_goals refine OutQ.lek (by repeat (first | exact SExt.refl _ | (refine SExt.old ?_ (by first | (simp only [*]; done) | (simp only [upd_none]; assumption) | (simp only [upd_none, *, not_false_eq_true, and_self]; done)) _))) hk1 ?_
      all_goals have hVV : ∀ b : Bool, V = b → A.le (.bool b) (.bool V) := fun b h => by rw [h]; exact A.le_refl _
      all_goals refine hVV _ ?_
      all_goals rw [hV']
      all_goals clear hV' hVV hb hob hs0 hs1 hs2
      all_goals simp_all only [Bool.not_eq_true', Bool.not_eq_false', Bool.not_not, Bool.not_true, Bool.not_false, Bool.and_true, Bool.true_and, Bool.and_false, Bool.false_and, Bool.or_true, Bool.true_or, Bool.or_false, Bool.false_or]
  have hV : validR ⟨op, id, ot, no, x, y, ke, va, re, ob⟩ = false := by
    have h1 : (decide (1 ≤ op) && decide (op ≤ 7)) = false := by
      rw [Bool.and_eq_false_iff, decide_eq_false_iff_not, decide_eq_false_iff_not]
      omega
    have e1 : validR ⟨op, id, ot, no, x, y, ke, va, re, ob⟩ = ((decide (1 ≤ op) && decide (op ≤ 7)) && _) := rfl
    rw [e1, h1, Bool.false_and]
  rw [hV]
  by_cases cl : op < 1
  · have d1 := decide_eq_true cl
    simp only [sZ, initT, optI, splice, reduceIte, reduceCtorEq, Nat.reduceEqDiff, Nat.reduceAdd, Nat.reduceSub, Nat.reduceMul, Nat.reduceLeDiff, Nat.reduceLT, Int.reduceLT, Int.reduceLE, Int.reduceToNat, Int.reduceEq, Int.cast_ofNat_Int, f1, d1]
    refine OutQ.eq (by repeat (first | exact SExt.refl _ | (refine SExt.old ?_ (by first | (simp only [*]; done) | (simp only [upd_none]; assumption) | (simp only [upd_none, *, not_false_eq_true, and_self]; done)) _))) rfl
  · have d1 := decide_eq_false cl
    have d7 := decide_eq_true (by omega : (7 : Int) < op)
    simp only [sZ, initT, optI, splice, reduceIte, reduceCtorEq, Nat.reduceEqDiff, Nat.reduceAdd, Nat.reduceSub, Nat.reduceMul, Nat.reduceLeDiff, Nat.reduceLT, Int.reduceLT, Int.reduceLE, Int.reduceToNat, Int.reduceEq, Int.cast_ofNat_Int, f1, d1, d7]
    refine OutQ.eq (by repeat (first | exact SExt.refl _ | (refine SExt.old ?_ (by first | (simp only [*]; done) | (simp only [upd_none]; assumption) | (simp only [upd_none, *, not_false_eq_true, and_self]; done)) _))) rfl
theorem spec_changer (l : List Edit) (hl : l.length < 4611686018427387904) (hf : ∀ e ∈ l, EditFit e) (hr : ∀ e ∈ l, e.refs.length ≤ 1000000) {s : Nat → Option Blk} {k : Nat → Tk} : Spec prg 38 [.sl 15 (l.map encEdit) .no] s k (.bool (changeV l)) s k := by
  refine spec_tr prg_mixed tr_pref22_Valid (Nat.le_of_ble_eq_true rfl) rfl ?_
  unfold pc_pref22_Valid rs_pref22_Valid
  have hV : changeV l = (decide (0 < l.length) && (decide (l.length ≤ 200) && l.all editV)) := rfl
  by_cases c1 : (l.length : Int) < 1
  · have d1 := decide_eq_true c1
    rw [hV, decide_eq_false (by omega : ¬ 0 < l.length), Bool.false_and]
    simp only [sZ, initT, optI, splice, reduceIte, reduceCtorEq, Nat.reduceEqDiff, Nat.reduceAdd, Nat.reduceSub, Nat.reduceMul, Nat.reduceLeDiff, Nat.reduceLT, Int.reduceLT, Int.reduceLE, Int.reduceToNat, Int.reduceEq, Int.cast_ofNat_Int, d1]
    refine OutQ.eq (by repeat (first | exact SExt.refl _ | (refine SExt.old ?_ (by first | (simp only [*]; done) | (simp only [upd_none]; assumption) | (simp only [upd_none, *, not_false_eq_true, and_self]; done)) _))) rfl
  have d1 := decide_eq_false c1
  rw [decide_eq_true (by omega : 0 < l.length), Bool.true_and] at hV
  by_cases c2 : (200 : Int) < (l.length : Int)
  · have d2 := decide_eq_true c2
    rw [hV, decide_eq_false (by omega : ¬ l.length ≤ 200), Bool.false_and]
    simp only [sZ, initT, optI, splice, reduceIte, reduceCtorEq, Nat.reduceEqDiff, Nat.reduceAdd, Nat.reduceSub, Nat.reduceMul, Nat.reduceLeDiff, Nat.reduceLT, Int.reduceLT, Int.reduceLE, Int.reduceToNat, Int.reduceEq, Int.cast_ofNat_Int, d1, d2]
    refine OutQ.eq (by repeat (first | exact SExt.refl _ | (refine SExt.old ?_ (by first | (simp only [*]; done) | (simp only [upd_none]; assumption) | (simp only [upd_none, *, not_false_eq_true, and_self]; done)) _))) rfl
  have d2 := decide_eq_false c2
  rw [decide_eq_true (by omega : l.length ≤ 200), Bool.true_and] at hV
  simp only [sZ, initT, optI, splice, reduceIte, reduceCtorEq, Nat.reduceEqDiff, Nat.reduceAdd, Nat.reduceSub, Nat.reduceMul, Nat.reduceLeDiff, Nat.reduceLT, Int.reduceLT, Int.reduceLE, Int.reduceToNat, Int.reduceEq, Int.cast_ofNat_Int, d1, d2]
  refine loop_L (α := Unit) l.length (fun j _ => [(0, .sl 15 (l.map encEdit) .no), (3, .int .i64 j)]) (fun _ _ => s) (fun _ _ => k) (fun j _ => ∀ i (h : i < l.length), i < j → editV l[i] = true) () (SExt.refl _) rfl (by (try simp only [TabLe_cons, TabLe_nil, tab_cons, tab_nil, upd_apply, Nat.reduceEqDiff, reduceIte, and_true]); repeat' (first | exact trivial | exact A.le_refl _ | exact le_strip_no _ _ _ | exact A.le_no _ _ _ | exact A.le_empty _ _ _ | refine And.intro ?_ ?_)) (fun i _ h => by omega) ?_
  rintro j ⟨⟩ hj hall
  try dsimp only
  simp only [sZ, initT, optI, splice, reduceIte, reduceCtorEq, Nat.reduceEqDiff, Nat.reduceAdd, Nat.reduceSub, Nat.reduceMul, Nat.reduceLeDiff, Nat.reduceLT, Int.reduceLT, Int.reduceLE, Int.reduceToNat, Int.reduceEq, Int.cast_ofNat_Int]
  refine brC_in (fun hlt => ?_) (fun hge => ?_)
  · have hj' : j < l.length := by have := of_decide_eq_true hlt; omega
    clear hlt
    have hw := wrap_succ hj' (by omega)
    have hg : (l.map encEdit)[j]? = some (encEdit l[j]) := editE.get hj'
    simp only [sZ, initT, optI, splice, reduceIte, reduceCtorEq, Nat.reduceEqDiff, Nat.reduceAdd, Nat.reduceSub, Nat.reduceMul, Nat.reduceLeDiff, Nat.reduceLT, Int.reduceLT, Int.reduceLE, Int.reduceToNat, Int.reduceEq, Int.cast_ofNat_Int, hg, len_encEdit, wh_encEdit, st_encEdit]
    refine callS_quiet (spec_validr l[j] (hf _ (List.getElem_mem hj')) (hr _ (List.getElem_mem hj'))) ?_
    cases hn : editV l[j]
    · have : l.all editV = false := by rw [List.all_eq_false]; exact ⟨l[j], List.getElem_mem hj', by rw [hn]; simp⟩
      rw [hV, this]
      simp only [sZ, initT, optI, splice, reduceIte, reduceCtorEq, Nat.reduceEqDiff, Nat.reduceAdd, Nat.reduceSub, Nat.reduceMul, Nat.reduceLeDiff, Nat.reduceLT, Int.reduceLT, Int.reduceLE, Int.reduceToNat, Int.reduceEq, Int.cast_ofNat_Int, Bool.not_false]
      refine OutQ.eq (by repeat (first | exact SExt.refl _ | (refine SExt.old ?_ (by first | (simp only [*]; done) | (simp only [upd_none]; assumption) | (simp only [upd_none, *, not_false_eq_true, and_self]; done)) _))) rfl
    · simp only [sZ, initT, optI, splice, reduceIte, reduceCtorEq, Nat.reduceEqDiff, Nat.reduceAdd, Nat.reduceSub, Nat.reduceMul, Nat.reduceLeDiff, Nat.reduceLT, Int.reduceLT, Int.reduceLE, Int.reduceToNat, Int.reduceEq, Int.cast_ofNat_Int, Bool.not_true, hw]
      refine next_L hj' () (SExt.refl _) rfl (by (try simp only [TabLe_cons, TabLe_nil, tab_cons, tab_nil, upd_apply, Nat.reduceEqDiff, reduceIte, and_true]); repeat' (first | exact trivial | exact A.le_refl _ | exact le_strip_no _ _ _ | exact A.le_no _ _ _ | exact A.le_empty _ _ _ | refine And.intro ?_ ?_)) fun i hi h3 => ?_
      by_cases hij : i = j
      · subst hij; exact hn
      · exact hall i hi (by omega)
  · have hje : j = l.length := by have := of_decide_eq_false hge; omega
    subst hje
    have : l.all editV = true := by
      rw [List.all_eq_true]
      intro x hx
      obtain ⟨i, hi, rfl⟩ := List.getElem_of_mem hx
      exact hall i hi hi
    rw [hV, this]
    simp only [sZ, initT, optI, splice, reduceIte, reduceCtorEq, Nat.reduceEqDiff, Nat.reduceAdd, Nat.reduceSub, Nat.reduceMul, Nat.reduceLeDiff, Nat.reduceLT, Int.reduceLT, Int.reduceLE, Int.reduceToNat, Int.reduceEq, Int.cast_ofNat_Int]
    refine OutQ.eq (by repeat (first | exact SExt.refl _ | (refine SExt.old ?_ (by first | (simp only [*]; done) | (simp only [upd_none]; assumption) | (simp only [upd_none, *, not_false_eq_true, and_self]; done)) _))) rfl
end Go.Pv
