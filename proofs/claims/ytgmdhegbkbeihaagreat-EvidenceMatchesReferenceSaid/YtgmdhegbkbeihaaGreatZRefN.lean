/- EvidenceMatchesReference: what the reference finds, and the law. -/
import Derived.Test.YtgmdhegbkbeihaaGreatZRefM
import Derived.Test.YtgmdhegbkbeihaaGreatZRefG
import Derived.Test.YtgmdhegbkbeihaaGreatZEvW
set_option linter.unusedVariables false
set_option linter.unusedSimpArgs false
set_option maxRecDepth 4000
set_option maxHeartbeats 4000000
namespace Go.Pv
open Go

def okR (m : List Obj) (l : List Edit) (κ : Int) (i : Nat) : Bool := decide ((firstG m l κ i).length = manyE κ) && dropB l κ
def kindR (m : List Obj) (l : List Edit) (κ : Int) : Option Evid := match (List.range l.length).find? (okR m l κ) with
  | some i => some ⟨κ, (firstG m l κ i).map Int.ofNat⟩
  | none => none
theorem okR_show {m : List Obj} {l : List Edit} {κ : Int} {i : Nat} (h : okR m l κ i = true) : showE m κ (atE l i) = true ∧ fullE m l κ i = true ∧ dropB l κ = true := by
  unfold okR at h
  rw [Bool.and_eq_true, decide_eq_true_eq] at h
  unfold firstG at h
  cases hs : showE m κ (atE l i)
  · rw [hs, if_neg (by decide)] at h
    have := many_pos κ
    have h1 := h.1
    simp only [List.length_nil] at h1
    omega
  · rw [hs, if_pos rfl] at h
    exact ⟨rfl, decide_eq_true h.1, h.2⟩
theorem okR_of {m : List Obj} {l : List Edit} {κ : Int} {i : Nat} (h1 : showE m κ (atE l i) = true) (h2 : fullE m l κ i = true) (h3 : dropB l κ = true) : okR m l κ i = true ∧ firstG m l κ i = firstE m l κ i := by
  have e : firstG m l κ i = firstE m l κ i := by unfold firstG; rw [if_pos h1]
  refine ⟨?_, e⟩
  unfold okR
  rw [e, h3, Bool.and_true]
  exact h2
theorem kind_eq (m : List Obj) (l : List Edit) (κ : Int) : kindR m l κ = kindE m l κ := by
  unfold kindR kindE
  by_cases hd : κ = 1 ∧ 2 * dropsF l ≤ l.length
  · rw [if_pos hd]
    have hB : dropB l κ = false := by
      unfold dropB
      rw [decide_eq_true hd.1, decide_eq_false (by omega)]
      rfl
    have : (List.range l.length).find? (okR m l κ) = none := range_find_none fun i _ => by unfold okR; rw [hB, Bool.and_false]
    rw [this]
  rw [if_neg hd]
  have hB : dropB l κ = true := by
    unfold dropB
    by_cases c : κ = 1
    · rw [decide_eq_true c, decide_eq_true (by omega)]; rfl
    · rw [decide_eq_false c]; rfl
  cases hst : (List.range l.length).find? (stopE m l κ) with
  | none =>
    have hall : ∀ i, i < l.length → stopE m l κ i = false := fun i hi => by
      have := List.find?_eq_none.1 hst i (List.mem_range.2 hi)
      simpa using this
    have : (List.range l.length).find? (okR m l κ) = none := range_find_none fun i hi => by
      cases ho : okR m l κ i with
      | false => rfl
      | true =>
        obtain ⟨q1, q2, _⟩ := okR_show ho
        have h1 := hall i hi
        unfold stopE at h1
        rw [q1, q2] at h1
        simp at h1
    rw [this]
  | some i =>
    rw [List.find?_eq_some_iff_getElem] at hst
    obtain ⟨hs, i', hi', hie, hbef⟩ := hst
    simp only [List.getElem_range] at hie hbef
    subst hie
    have hil : i' < l.length := by simpa using hi'
    have hbef' : ∀ q, q < i' → stopE m l κ q = false := fun q hq => by simpa using hbef q hq
    dsimp only
    have hsh : showE m κ (atE l i') = true := by
      unfold stopE at hs
      rw [Bool.and_eq_true] at hs
      exact hs.1
    have hbok : ∀ q, q < i' → okR m l κ q = false := fun q hq => by
      cases ho : okR m l κ q with
      | false => rfl
      | true =>
        obtain ⟨q1, q2, _⟩ := okR_show ho
        have h1 := hbef' q hq
        unfold stopE at h1
        rw [q1, q2] at h1
        simp at h1
    cases hfu : fullE m l κ i'
    · rw [if_neg (by decide)]
      have hk4 : κ ≠ 4 := by
        rintro rfl
        unfold stopE at hs
        rw [hfu] at hs
        simp at hs
      have : (List.range l.length).find? (okR m l κ) = none := range_find_none fun q hq => by
        cases ho : okR m l κ q with
        | false => rfl
        | true =>
          obtain ⟨q1, q2, _⟩ := okR_show ho
          by_cases hqi : q < i'
          · rw [hbok q hqi] at ho; cases ho
          · have hT := firstS_taken m l κ (manyE κ) q (l.length - q)
            have hmem := firstS_mem (fitsE m κ) l (manyE κ) q (l.length - q)
            have hM := firstS_many (m := m) (l := l) (κ := κ) (fro := i') (M := manyE κ) hsh (many_pos κ) (l.length - i') (firstE m l κ q) (by
              rw [List.pairwise_map]
              refine hT.tog.imp fun {a b} h => (tog_iff.1 h).1) (fun i hi => by
              have := hmem i hi
              exact ⟨by omega, by omega, hT.show_ i hi, cls_iff.2 fun h => absurd h hk4⟩)
            have hle := firstS_le (fitsE m κ) l (manyE κ) i' (l.length - i')
            have hq2 : (firstE m l κ q).length = manyE κ := of_decide_eq_true q2
            rw [hq2, Nat.min_self] at hM
            have hfull : fullE m l κ i' = true := decide_eq_true (Nat.le_antisymm hle hM)
            rw [hfull] at hfu
            cases hfu
      rw [this]
    · rw [if_pos rfl]
      obtain ⟨g1, g2⟩ := okR_of hsh hfu hB
      have : (List.range l.length).find? (okR m l κ) = some i' := range_find_hit hil hbok g1
      rw [this]
      dsimp only
      rw [g2]
theorem take_all_ok {m : List Obj} {l : List Edit} {κ : Int} (h : ∀ i, i < l.length → okR m l κ i = false) : kindE m l κ = none := by
  rw [← kind_eq]
  unfold kindR
  rw [range_find_none h]
theorem hit_ok {m : List Obj} {l : List Edit} {κ : Int} {i : Nat} (hi : i < l.length) (h0 : ∀ q, q < i → okR m l κ q = false) (h1 : okR m l κ i = true) : kindE m l κ = some ⟨κ, (firstG m l κ i).map Int.ofNat⟩ := by
  rw [← kind_eq]
  unfold kindR
  rw [range_find_hit hi h0 h1]
theorem firstG_taken (m : List Obj) (l : List Edit) (κ : Int) (fro : Nat) (hfro : fro ≤ l.length) : Taken m l κ (firstG m l κ fro) ∧ (∀ i ∈ firstG m l κ fro, i < l.length) ∧ (firstG m l κ fro).length ≤ manyE κ := by
  unfold firstG
  split
  · refine ⟨firstS_taken m l κ _ _ _, fun i hi => ?_, firstS_le _ _ _ _ _⟩
    have := firstS_mem _ _ _ _ _ i hi
    omega
  · exact ⟨⟨.nil, (fun i h => by cases h), .nil⟩, (fun i h => by cases h), Nat.zero_le _⟩
theorem spec_Findr (m : List Obj) (l : List Edit) (hm : MapFit m) (hml : m.length < 1152921504606846976) (hl : l.length < 70000) (hf : ∀ e ∈ l, EditFit e) (hr : ∀ e ∈ l, e.refs.length ≤ 1000000) {s : Nat → Option Blk} {k : Nat → Tk} :
    Spec prg 14 [.agg (encMap m), .sl 15 (l.map encEdit) .no] s k (.agg (encEvid (findF m l))) s k := by
  refine spec_tr prg_mixed tr_pref31_Find (Nat.le_of_ble_eq_true rfl) rfl ?_
  unfold pc_pref31_Find rs_pref31_Find
  have hC := fun s k => @spec_closed22 m hm hml s k
  have hV := fun s k => @spec_changer l (by omega) hf hr s k
  have hE4 : encMap m = [.sl 6 (m.map encObj) .no] := rfl
  have hF := fun κ (E : Ev m l κ) fro (h : fro < l.length) s k => @spec_firstr m l κ E fro h s k
  have hH := fun κ (E : Ev m l κ) f (hT : Taken m l κ f) hb hfl s k => @spec_holdsr m l κ E f hT hb hfl s k
  simp only [hE4] at hC hF hH
  simp only [sZ, initT, optI, splice, reduceIte, reduceCtorEq, Nat.reduceEqDiff, Nat.reduceAdd, Nat.reduceSub, Nat.reduceMul, Nat.reduceLeDiff, Nat.reduceLT, Int.reduceLT, Int.reduceLE, Int.reduceToNat, Int.reduceEq, Int.cast_ofNat_Int, hE4]
  (with_reducible refine newS_in ?_); intro b2 f2; simp only [upd_none] at f2
  simp only [sZ, initT, optI, splice, reduceIte, reduceCtorEq, Nat.reduceEqDiff, Nat.reduceAdd, Nat.reduceSub, Nat.reduceMul, Nat.reduceLeDiff, Nat.reduceLT, Int.reduceLT, Int.reduceLE, Int.reduceToNat, Int.reduceEq, Int.cast_ofNat_Int, f2]
  (with_reducible refine newS_in ?_); intro b4 f4; simp only [upd_none] at f4
  simp only [sZ, initT, optI, splice, reduceIte, reduceCtorEq, Nat.reduceEqDiff, Nat.reduceAdd, Nat.reduceSub, Nat.reduceMul, Nat.reduceLeDiff, Nat.reduceLT, Int.reduceLT, Int.reduceLE, Int.reduceToNat, Int.reduceEq, Int.cast_ofNat_Int, f2, f4]
  refine callS_quiet (hC _ _) ?_
  cases hc : closedF m
  · have : findF m l = ⟨0, []⟩ := by unfold findF; rw [if_neg (by rw [hc]; rintro ⟨h, _⟩; cases h)]
    rw [this]
    simp only [sZ, initT, optI, splice, reduceIte, reduceCtorEq, Nat.reduceEqDiff, Nat.reduceAdd, Nat.reduceSub, Nat.reduceMul, Nat.reduceLeDiff, Nat.reduceLT, Int.reduceLT, Int.reduceLE, Int.reduceToNat, Int.reduceEq, Int.cast_ofNat_Int, f2, f4, Bool.not_false]
    exact OutQ.le (by repeat (first | exact SExt.refl _ | (refine SExt.old ?_ (by first | (simp only [*]; done) | (simp only [upd_none]; assumption) | (simp only [upd_none, *, not_false_eq_true, and_self]; done)) _))) (A.le_agg (.cons (A.le_refl _) (.cons (A.le_no _ _ _) .nil)))
  simp only [sZ, initT, optI, splice, reduceIte, reduceCtorEq, Nat.reduceEqDiff, Nat.reduceAdd, Nat.reduceSub, Nat.reduceMul, Nat.reduceLeDiff, Nat.reduceLT, Int.reduceLT, Int.reduceLE, Int.reduceToNat, Int.reduceEq, Int.cast_ofNat_Int, f2, f4, Bool.not_true]
  refine callS_quiet (hV _ _) ?_
  cases hv : changeV l
  · have : findF m l = ⟨0, []⟩ := by unfold findF; rw [if_neg (by rw [hv]; rintro ⟨_, h⟩; cases h)]
    rw [this]
    simp only [sZ, initT, optI, splice, reduceIte, reduceCtorEq, Nat.reduceEqDiff, Nat.reduceAdd, Nat.reduceSub, Nat.reduceMul, Nat.reduceLeDiff, Nat.reduceLT, Int.reduceLT, Int.reduceLE, Int.reduceToNat, Int.reduceEq, Int.cast_ofNat_Int, f2, f4, Bool.not_false]
    exact OutQ.le (by repeat (first | exact SExt.refl _ | (refine SExt.old ?_ (by first | (simp only [*]; done) | (simp only [upd_none]; assumption) | (simp only [upd_none, *, not_false_eq_true, and_self]; done)) _))) (A.le_agg (.cons (A.le_refl _) (.cons (A.le_no _ _ _) .nil)))
  simp only [sZ, initT, optI, splice, reduceIte, reduceCtorEq, Nat.reduceEqDiff, Nat.reduceAdd, Nat.reduceSub, Nat.reduceMul, Nat.reduceLeDiff, Nat.reduceLT, Int.reduceLT, Int.reduceLE, Int.reduceToNat, Int.reduceEq, Int.cast_ofNat_Int, f2, f4, Bool.not_true]
  have hfe : findF m l = findE m l := by unfold findF; rw [if_pos ⟨hc, hv⟩]
  rw [hfe]
  have hev : ∀ e ∈ l, editV e = true := fun e he => by
    unfold changeV at hv
    simp only [Bool.and_eq_true, List.all_eq_true] at hv
    exact hv.2.2 e he
  refine loop_L (α := Unit) 4 (fun j _ => [(1, .sl 15 (l.map encEdit) .no), (2, .ptr b2 0), (4, .ptr b4 0), (5, .int .i64 ((j : Int) + 1))]) (fun _ _ => upd (upd s b2 (some (.cells [.sl 6 (m.map encObj) .no]))) b4 (some (.cells [.int .i64 0, .sl 1 [] .nil]))) (fun _ _ => k)
    (fun j _ => ∀ i : Nat, i < j → kindE m l ((i : Int) + 1) = none) () (SExt.refl _) rfl (by (try simp only [TabLe_cons, TabLe_nil, tab_cons, tab_nil, upd_apply, Nat.reduceEqDiff, reduceIte, and_true]); repeat' (first | exact trivial | exact A.le_refl _ | exact le_strip_no _ _ _ | exact A.le_no _ _ _ | exact A.le_empty _ _ _ | refine And.intro ?_ ?_)) (fun i h => by omega) ?_
  rintro j ⟨⟩ hj hall
  try dsimp only
  by_cases hlt : j < 4
  case neg =>
    have e1 : decide ((j : Int) + 1 ≤ 4) = false := decide_eq_false (by omega)
    have : findE m l = ⟨0, []⟩ := findE_none fun i hi => hall i (by omega)
    rw [this]
    simp only [sZ, initT, optI, splice, reduceIte, reduceCtorEq, Nat.reduceEqDiff, Nat.reduceAdd, Nat.reduceSub, Nat.reduceMul, Nat.reduceLeDiff, Nat.reduceLT, Int.reduceLT, Int.reduceLE, Int.reduceToNat, Int.reduceEq, Int.cast_ofNat_Int, f2, f4, e1]
    exact OutQ.le (by repeat (first | exact SExt.refl _ | (refine SExt.old ?_ (by first | (simp only [*]; done) | (simp only [upd_none]; assumption) | (simp only [upd_none, *, not_false_eq_true, and_self]; done)) _))) (A.le_agg (.cons (A.le_refl _) (.cons (A.le_no _ _ _) .nil)))
  have e1 : decide ((j : Int) + 1 ≤ 4) = true := decide_eq_true (by omega)
  have hw : IntKind.i64.wrap ((j : Int) + 1 + 1) = (((j + 1 : Nat) : Int) + 1) := by rw [wrap64 (by omega) (by omega)]; omega
  have E : Ev m l ((j : Int) + 1) := ⟨by omega, by omega, hl, hm, hf, hev⟩
  simp only [sZ, initT, optI, splice, reduceIte, reduceCtorEq, Nat.reduceEqDiff, Nat.reduceAdd, Nat.reduceSub, Nat.reduceMul, Nat.reduceLeDiff, Nat.reduceLT, Int.reduceLT, Int.reduceLE, Int.reduceToNat, Int.reduceEq, Int.cast_ofNat_Int, e1]
  refine loop_L (α := Unit) l.length (fun i _ => [(1, .sl 15 (l.map encEdit) .no), (2, .ptr b2 0), (4, .ptr b4 0), (5, .int .i64 ((j : Int) + 1)), (6, .int .i64 i)]) (fun _ _ => upd (upd s b2 (some (.cells [.sl 6 (m.map encObj) .no]))) b4 (some (.cells [.int .i64 0, .sl 1 [] .nil]))) (fun _ _ => k)
    (fun i _ => ∀ q : Nat, q < i → okR m l ((j : Int) + 1) q = false) () (SExt.refl _) rfl (by (try simp only [TabLe_cons, TabLe_nil, tab_cons, tab_nil, upd_apply, Nat.reduceEqDiff, reduceIte, and_true]); repeat' (first | exact trivial | exact A.le_refl _ | exact le_strip_no _ _ _ | exact A.le_no _ _ _ | exact A.le_empty _ _ _ | refine And.intro ?_ ?_)) (fun i h => by omega) ?_
  rintro i ⟨⟩ hi hno
  try dsimp only
  by_cases hil : i < l.length
  case neg =>
    have e2 : decide ((i : Int) < (l.length : Int)) = false := decide_eq_false (by omega)
    have hie : i = l.length := by omega
    subst hie
    have hk0 := take_all_ok hno
    simp only [sZ, initT, optI, splice, reduceIte, reduceCtorEq, Nat.reduceEqDiff, Nat.reduceAdd, Nat.reduceSub, Nat.reduceMul, Nat.reduceLeDiff, Nat.reduceLT, Int.reduceLT, Int.reduceLE, Int.reduceToNat, Int.reduceEq, Int.cast_ofNat_Int, e2]
    simp only [sZ, initT, optI, splice, reduceIte, reduceCtorEq, Nat.reduceEqDiff, Nat.reduceAdd, Nat.reduceSub, Nat.reduceMul, Nat.reduceLeDiff, Nat.reduceLT, Int.reduceLT, Int.reduceLE, Int.reduceToNat, Int.reduceEq, Int.cast_ofNat_Int, hw]
    refine next_L hlt () (SExt.refl _) rfl (by (try simp only [TabLe_cons, TabLe_nil, tab_cons, tab_nil, upd_apply, Nat.reduceEqDiff, reduceIte, and_true]); repeat' (first | exact trivial | exact A.le_refl _ | exact le_strip_no _ _ _ | exact A.le_no _ _ _ | exact A.le_empty _ _ _ | refine And.intro ?_ ?_)) fun q hq => ?_
    by_cases e : q = j
    · subst e; exact hk0
    · exact hall q (by omega)
  have e2 : decide ((i : Int) < (l.length : Int)) = true := decide_eq_true (by omega)
  have hwi := wrap_succ hil (by omega)
  obtain ⟨t1, t2, t3⟩ := firstG_taken m l ((j : Int) + 1) i (by omega)
  have hM5 := manyE_le ((j : Int) + 1)
  have hH2 := fun s k => hH _ E (firstG m l ((j : Int) + 1) i) t1 t2 (by omega) s k
  have hok : (decide ((firstG m l ((j : Int) + 1) i).length = manyE ((j : Int) + 1)) && dropB l ((j : Int) + 1)) = okR m l ((j : Int) + 1) i := rfl
  rw [hok] at hH2
  simp only [sZ, initT, optI, splice, reduceIte, reduceCtorEq, Nat.reduceEqDiff, Nat.reduceAdd, Nat.reduceSub, Nat.reduceMul, Nat.reduceLeDiff, Nat.reduceLT, Int.reduceLT, Int.reduceLE, Int.reduceToNat, Int.reduceEq, Int.cast_ofNat_Int, f2, f4, e2]
  refine callS_quiet (hF _ E i hil _ _) ?_
  simp only [sZ, initT, optI, splice, reduceIte, reduceCtorEq, Nat.reduceEqDiff, Nat.reduceAdd, Nat.reduceSub, Nat.reduceMul, Nat.reduceLeDiff, Nat.reduceLT, Int.reduceLT, Int.reduceLE, Int.reduceToNat, Int.reduceEq, Int.cast_ofNat_Int, f2, f4]
  (with_reducible refine newS_in ?_); intro b7 f7; simp only [upd_none] at f7
  simp only [sZ, initT, optI, splice, reduceIte, reduceCtorEq, Nat.reduceEqDiff, Nat.reduceAdd, Nat.reduceSub, Nat.reduceMul, Nat.reduceLeDiff, Nat.reduceLT, Int.reduceLT, Int.reduceLE, Int.reduceToNat, Int.reduceEq, Int.cast_ofNat_Int, f2, f4, f7]
  refine callS_quiet (hH2 _ _) ?_
  cases ho : okR m l ((j : Int) + 1) i
  · simp only [sZ, initT, optI, splice, reduceIte, reduceCtorEq, Nat.reduceEqDiff, Nat.reduceAdd, Nat.reduceSub, Nat.reduceMul, Nat.reduceLeDiff, Nat.reduceLT, Int.reduceLT, Int.reduceLE, Int.reduceToNat, Int.reduceEq, Int.cast_ofNat_Int, f2, f4, f7]
    simp only [sZ, initT, optI, splice, reduceIte, reduceCtorEq, Nat.reduceEqDiff, Nat.reduceAdd, Nat.reduceSub, Nat.reduceMul, Nat.reduceLeDiff, Nat.reduceLT, Int.reduceLT, Int.reduceLE, Int.reduceToNat, Int.reduceEq, Int.cast_ofNat_Int, hwi]
    refine next_L hil () (by repeat (first | exact SExt.refl _ | (refine SExt.old ?_ (by first | (simp only [*]; done) | (simp only [upd_none]; assumption) | (simp only [upd_none, *, not_false_eq_true, and_self]; done)) _))) rfl (by (try simp only [TabLe_cons, TabLe_nil, tab_cons, tab_nil, upd_apply, Nat.reduceEqDiff, reduceIte, and_true]); repeat' (first | exact trivial | exact A.le_refl _ | exact le_strip_no _ _ _ | exact A.le_no _ _ _ | exact A.le_empty _ _ _ | refine And.intro ?_ ?_)) fun q hq => ?_
    by_cases e : q = i
    · subst e; exact ho
    · exact hno q (by omega)
  · have hfd : findE m l = ⟨(j : Int) + 1, (firstG m l ((j : Int) + 1) i).map Int.ofNat⟩ := findE_hit hlt hall (hit_ok hil hno ho)
    rw [hfd, evid_nat]
    simp only [sZ, initT, optI, splice, reduceIte, reduceCtorEq, Nat.reduceEqDiff, Nat.reduceAdd, Nat.reduceSub, Nat.reduceMul, Nat.reduceLeDiff, Nat.reduceLT, Int.reduceLT, Int.reduceLE, Int.reduceToNat, Int.reduceEq, Int.cast_ofNat_Int, f2, f4, f7]
    refine OutQ.eq (by repeat (first | exact SExt.refl _ | (refine SExt.old ?_ (by first | (simp only [*]; done) | (simp only [upd_none]; assumption) | (simp only [upd_none, *, not_false_eq_true, and_self]; done)) _))) rfl
theorem few_refs {l : List Edit} {m : List Obj} (h : few31 m l = true) : ∀ e ∈ l, e.refs.length ≤ 1000000 := by
  simp only [few31, Bool.and_eq_true, Bool.not_eq_true', decide_eq_false_iff_not, List.all_eq_true] at h
  intro e he
  have := h.2.2 e he
  unfold fewE at this
  simp only [Bool.and_eq_true, Bool.not_eq_true', decide_eq_false_iff_not] at this
  omega
theorem sameEv_refl (e : Evid) : sameEv e e = true := by
  unfold sameEv
  simp
theorem spec_matchLaw (m : List Obj) (l : List Edit) (hm : ∀ o ∈ m, ObjSm o) (hl : ∀ e ∈ l, ObjSm e.obj) {s : Nat → Option Blk} {k : Nat → Tk} : Spec prg 3 [.agg (encMap m), .sl 15 (l.map encEdit) .no] s k (.bool true) s k := by
  refine spec_tr prg_mixed tr_plaw31_EvidenceMatchesReference (Nat.le_of_ble_eq_true rfl) rfl ?_
  unfold pc_plaw31_EvidenceMatchesReference rs_plaw31_EvidenceMatchesReference
  have hfew := fun s k => @spec_few31 m l s k
  have hE4 : encMap m = [.sl 6 (m.map encObj) .no] := rfl
  simp only [hE4] at hfew
  simp only [sZ, initT, optI, splice, reduceIte, reduceCtorEq, Nat.reduceEqDiff, Nat.reduceAdd, Nat.reduceSub, Nat.reduceMul, Nat.reduceLeDiff, Nat.reduceLT, Int.reduceLT, Int.reduceLE, Int.reduceToNat, Int.reduceEq, Int.cast_ofNat_Int, hE4]
  (with_reducible refine newS_in ?_); intro b2 f2; simp only [upd_none] at f2
  simp only [sZ, initT, optI, splice, reduceIte, reduceCtorEq, Nat.reduceEqDiff, Nat.reduceAdd, Nat.reduceSub, Nat.reduceMul, Nat.reduceLeDiff, Nat.reduceLT, Int.reduceLT, Int.reduceLE, Int.reduceToNat, Int.reduceEq, Int.cast_ofNat_Int, f2]
  refine callS_quiet spec_head31 ?_
  simp only [sZ, initT, optI, splice, reduceIte, reduceCtorEq, Nat.reduceEqDiff, Nat.reduceAdd, Nat.reduceSub, Nat.reduceMul, Nat.reduceLeDiff, Nat.reduceLT, Int.reduceLT, Int.reduceLE, Int.reduceToNat, Int.reduceEq, Int.cast_ofNat_Int, f2]
  refine callS_quiet (hfew _ _) ?_
  cases hfw : few31 m l
  · simp only [sZ, initT, optI, splice, reduceIte, reduceCtorEq, Nat.reduceEqDiff, Nat.reduceAdd, Nat.reduceSub, Nat.reduceMul, Nat.reduceLeDiff, Nat.reduceLT, Int.reduceLT, Int.reduceLE, Int.reduceToNat, Int.reduceEq, Int.cast_ofNat_Int, f2, Bool.not_false]
    refine OutQ.eq (by repeat (first | exact SExt.refl _ | (refine SExt.old ?_ (by first | (simp only [*]; done) | (simp only [upd_none]; assumption) | (simp only [upd_none, *, not_false_eq_true, and_self]; done)) _))) rfl
  obtain ⟨n1, n2, hmf, hlf⟩ := few31_fit hfw hm hl
  have hF := fun s k => @spec_Find m l hmf (by omega) hlf s k
  have hR := fun s k => @spec_Findr m l hmf (by omega) (by omega) hlf (few_refs hfw) s k
  have hlen : (findF m l).edits.length < 70000 := by
    unfold findF
    split
    · rcases findE_cases m l with ⟨h, _⟩ | ⟨κ, _, _, h, _⟩
      · rw [h]; decide
      · obtain ⟨_, i, _, _, _, hfu, he⟩ := kindE_some h
        rw [he]
        have := manyE_le κ
        have h2 : (firstE m l κ i).length = manyE κ := of_decide_eq_true hfu
        simp only [List.length_map]
        omega
    · decide
  have hS := fun s k => @spec_sameEv (findF m l) (findF m l) hlen s k
  rw [sameEv_refl] at hS
  simp only [hE4] at hF hR
  generalize encEvid (findF m l) = ev at *
  clear hlen
  simp only [sZ, initT, optI, splice, reduceIte, reduceCtorEq, Nat.reduceEqDiff, Nat.reduceAdd, Nat.reduceSub, Nat.reduceMul, Nat.reduceLeDiff, Nat.reduceLT, Int.reduceLT, Int.reduceLE, Int.reduceToNat, Int.reduceEq, Int.cast_ofNat_Int, f2, Bool.not_true]
  refine callQS_quiet (hF _ _) ?_
  simp only [sZ, initT, optI, splice, reduceIte, reduceCtorEq, Nat.reduceEqDiff, Nat.reduceAdd, Nat.reduceSub, Nat.reduceMul, Nat.reduceLeDiff, Nat.reduceLT, Int.reduceLT, Int.reduceLE, Int.reduceToNat, Int.reduceEq, Int.cast_ofNat_Int, f2]
  refine callQS_quiet (hR _ _) ?_
  simp only [sZ, initT, optI, splice, reduceIte, reduceCtorEq, Nat.reduceEqDiff, Nat.reduceAdd, Nat.reduceSub, Nat.reduceMul, Nat.reduceLeDiff, Nat.reduceLT, Int.reduceLT, Int.reduceLE, Int.reduceToNat, Int.reduceEq, Int.cast_ofNat_Int, f2]
  refine callQS_quiet (hS _ _) ?_
  simp only [sZ, initT, optI, splice, reduceIte, reduceCtorEq, Nat.reduceEqDiff, Nat.reduceAdd, Nat.reduceSub, Nat.reduceMul, Nat.reduceLeDiff, Nat.reduceLT, Int.reduceLT, Int.reduceLE, Int.reduceToNat, Int.reduceEq, Int.cast_ofNat_Int, f2]
  refine OutQ.eq (by repeat (first | exact SExt.refl _ | (refine SExt.old ?_ (by first | (simp only [*]; done) | (simp only [upd_none]; assumption) | (simp only [upd_none, *, not_false_eq_true, and_self]; done)) _))) rfl
end Go.Pv
