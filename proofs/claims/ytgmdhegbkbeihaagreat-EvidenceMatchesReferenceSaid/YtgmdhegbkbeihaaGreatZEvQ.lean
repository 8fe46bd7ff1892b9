/- The evidence that is found. -/
import Derived.Test.YtgmdhegbkbeihaaGreatZEvP
set_option linter.unusedVariables false
set_option linter.unusedSimpArgs false
set_option maxRecDepth 4000
set_option maxHeartbeats 4000000
namespace Go.Pv
open Go

def manyE (kind : Int) : Nat := if kind = 1 then 5 else if kind = 4 then 4 else 3
def fitsE (m : List Obj) (kind : Int) (x : Edit) (before : List Edit) : Bool := showE m kind x && before.all fun y => togE kind y x
def firstE (m : List Obj) (l : List Edit) (kind : Int) (i : Nat) : List Nat := firstF (fitsE m kind) l (manyE kind) i
def fullE (m : List Obj) (l : List Edit) (kind : Int) (i : Nat) : Bool := decide ((firstE m l kind i).length = manyE kind)
def stopE (m : List Obj) (l : List Edit) (kind : Int) (i : Nat) : Bool := showE m kind (atE l i) && (!decide (kind = 4) || fullE m l kind i)
def kindE (m : List Obj) (l : List Edit) (kind : Int) : Option Evid :=
  if kind = 1 ∧ 2 * dropsF l ≤ l.length then none
  else match (List.range l.length).find? (stopE m l kind) with
    | none => none
    | some i => if fullE m l kind i = true then some ⟨kind, (firstE m l kind i).map Int.ofNat⟩ else none
def findE (m : List Obj) (l : List Edit) : Evid := ((([1, 2, 3, 4] : List Int).findSome? (kindE m l)).getD ⟨0, []⟩)
def findF (m : List Obj) (l : List Edit) : Evid := if closedF m = true ∧ changeV l = true then findE m l else ⟨0, []⟩
theorem findE_hit {m : List Obj} {l : List Edit} {e : Evid} : ∀ {j : Nat} (hj : j < 4) (h0 : ∀ i, i < j → kindE m l ((i : Int) + 1) = none) (h1 : kindE m l ((j : Int) + 1) = some e), findE m l = e := by
  intro j hj h0 h1
  unfold findE
  match j, hj with
  | 0, _ =>
    have : kindE m l 1 = some e := h1
    simp only [List.findSome?, this, Option.getD_some]
  | 1, _ =>
    have a : kindE m l 1 = none := h0 0 (by omega)
    have : kindE m l 2 = some e := h1
    simp only [List.findSome?, a, this, Option.getD_some]
  | 2, _ =>
    have a : kindE m l 1 = none := h0 0 (by omega)
    have b : kindE m l 2 = none := h0 1 (by omega)
    have : kindE m l 3 = some e := h1
    simp only [List.findSome?, a, b, this, Option.getD_some]
  | 3, _ =>
    have a : kindE m l 1 = none := h0 0 (by omega)
    have b : kindE m l 2 = none := h0 1 (by omega)
    have c : kindE m l 3 = none := h0 2 (by omega)
    have : kindE m l 4 = some e := h1
    simp only [List.findSome?, a, b, c, this, Option.getD_some]
theorem findE_none {m : List Obj} {l : List Edit} (h0 : ∀ i : Nat, i < 4 → kindE m l ((i : Int) + 1) = none) : findE m l = ⟨0, []⟩ := by
  unfold findE
  have a : kindE m l 1 = none := h0 0 (by omega)
  have b : kindE m l 2 = none := h0 1 (by omega)
  have c : kindE m l 3 = none := h0 2 (by omega)
  have d : kindE m l 4 = none := h0 3 (by omega)
  simp only [List.findSome?, a, b, c, d, Option.getD_none]
theorem range_find_hit {p : Nat → Bool} {n i : Nat} (hi : i < n) (h0 : ∀ k, k < i → p k = false) (h1 : p i = true) : (List.range n).find? p = some i := by
  rw [List.find?_eq_some_iff_getElem]
  exact ⟨h1, i, by simpa using hi, by simp, fun k hk => by simpa using h0 k hk⟩
theorem range_find_none {p : Nat → Bool} {n : Nat} (h0 : ∀ k, k < n → p k = false) : (List.range n).find? p = none := by
  rw [List.find?_eq_none]
  intro k hk
  simpa using h0 k (by simpa using hk)
theorem enc_nat (f : List Nat) : f.map encNat = (f.map Int.ofNat).map encInt := by
  rw [List.map_map]
  rfl
theorem evid_nat (kind : Int) (f : List Nat) : encEvid ⟨kind, f.map Int.ofNat⟩ = [.int .i64 kind, .sl 1 (f.map encNat) .no] := by
  rw [enc_nat]
  rfl
theorem susp_row (m : List Obj) (l : List Edit) (hm : m.length < 4611686018427387904) (hmt : ∀ o ∈ m, o.tags.length < 4611686018427387904) (hlt : ∀ e ∈ l, e.obj.tags.length < 4611686018427387904) {mb ob : Nat} {s : Hp} (h1 : s mb = some (.cells [.sl 6 (m.map encObj) .no])) (h2 : s ob = some (.cells [.fn 58 [.ptr mb 0]])) :
    ∀ j : Nat, j < 4 → ∃ (fs : FuncId) (caps : List A) (ft : FuncId), (suspA ob)[j]? = some [.int .i64 ((j : Int) + 1), .int .i64 (manyE ((j : Int) + 1) : Nat), .fn fs caps, .fn ft []] ∧ (∀ (e : Edit) (s' : Hp) (k : Nat → Tk), SExt s s' → Spec prg fs (.agg (encEdit e) :: caps) s' k (.bool (showE m ((j : Int) + 1) e)) s' k) ∧
      ∀ (a b : Edit) (s' : Hp) (k : Nat → Tk), a ∈ l → Spec prg ft [.agg (encEdit a), .agg (encEdit b)] s' k (.bool (togE ((j : Int) + 1) a b)) s' k := by
  have ext : ∀ s', SExt s s' → s' mb = some (.cells [.sl 6 (m.map encObj) .no]) ∧ s' ob = some (.cells [.fn 58 [.ptr mb 0]]) := fun s' h => ⟨by rw [h mb (by rw [h1]; simp), h1], by rw [h ob (by rw [h2]; simp), h2]⟩
  intro j hj
  match j, hj with
  | 0, _ => exact ⟨_, _, _, rfl, fun e s' k h => spec_shows1 m e hm (ext s' h).1 (ext s' h).2, fun a b s' k ha => spec_apart 1 (by decide) a b⟩
  | 1, _ => 
    refine ⟨_, _, _, rfl, fun e s' k h => spec_shows2 m e hm ?_ (ext s' h).1 (ext s' h).2, fun a b s' k ha => spec_apart 2 (by decide) a b⟩
    unfold objF
    split
    · rename_i o ho
      exact hmt o (List.mem_of_find?_eq_some ho)
    · decide
  | 2, _ => exact ⟨_, _, _, rfl, fun e s' k h => spec_shows3 m e hm (ext s' h).1 (ext s' h).2, fun a b s' k ha => spec_apart 3 (by decide) a b⟩
  | 3, _ => exact ⟨_, _, _, rfl, fun e s' k h => spec_shows4 m e, fun a b s' k ha => spec_tog4 a b (hlt a ha)⟩
theorem dropsF_take (l : List Edit) {j : Nat} (h : j < l.length) : dropsF (l.take (j + 1)) = dropsF (l.take j) + (if decide (l[j].op = 5) then 1 else 0) := by
  unfold dropsF
  rw [List.take_succ_eq_append_getElem h, List.countP_append]
  simp [List.countP_cons]
theorem dropsF_le (l : List Edit) : dropsF l ≤ l.length := List.countP_le_length
theorem spec_Find (m : List Obj) (l : List Edit) (hm : MapFit m) (hl : l.length < 70000) (hf : ∀ e ∈ l, EditFit e) {s : Nat → Option Blk} {k : Nat → Tk} :
    Spec prg 13 [.agg (encMap m), .sl 15 (l.map encEdit) .no] s k (.agg (encEvid (findF m l))) s k := by
  refine spec_tr prg_mixed tr_evidence_Find (Nat.le_of_ble_eq_true rfl) rfl ?_
  unfold pc_evidence_Find rs_evidence_Find
  have ha := fun s k => @spec_all0 m hm s k
  have hc := fun s k => @spec_change l (by omega) hf s k
  have hs := fun s k => @spec_susp m s k
  simp only [encMap] at ha hs
  have hz : A.le (.agg [.int .i64 0, .sl 1 [] .nil]) (.agg (encEvid ⟨0, []⟩)) := A.le_agg (.cons (A.le_refl _) (.cons (A.le_empty _ _ _) .nil))
  have hne : (!decide (allE m = 0)) = !closedF m := by rw [allE_ok]
  simp only [sZ, initT, optI, splice, reduceIte, reduceCtorEq, Nat.reduceEqDiff, Nat.reduceAdd, Nat.reduceSub, Nat.reduceMul, Nat.reduceLeDiff, Nat.reduceLT, Int.reduceLT, Int.reduceLE, Int.reduceToNat, Int.reduceEq, Int.cast_ofNat_Int, encMap]
  (with_reducible refine newS_in ?_); intro b2 f2; simp only [upd_none] at f2
  simp only [sZ, initT, optI, splice, reduceIte, reduceCtorEq, Nat.reduceEqDiff, Nat.reduceAdd, Nat.reduceSub, Nat.reduceMul, Nat.reduceLeDiff, Nat.reduceLT, Int.reduceLT, Int.reduceLE, Int.reduceToNat, Int.reduceEq, Int.cast_ofNat_Int, f2]
  (with_reducible refine newS_in ?_); intro b4 f4; simp only [upd_none] at f4
  simp only [sZ, initT, optI, splice, reduceIte, reduceCtorEq, Nat.reduceEqDiff, Nat.reduceAdd, Nat.reduceSub, Nat.reduceMul, Nat.reduceLeDiff, Nat.reduceLT, Int.reduceLT, Int.reduceLE, Int.reduceToNat, Int.reduceEq, Int.cast_ofNat_Int, f2, f4]
  refine callS_quiet (ha _ _) ?_
  simp only [sZ, initT, optI, splice, reduceIte, reduceCtorEq, Nat.reduceEqDiff, Nat.reduceAdd, Nat.reduceSub, Nat.reduceMul, Nat.reduceLeDiff, Nat.reduceLT, Int.reduceLT, Int.reduceLE, Int.reduceToNat, Int.reduceEq, Int.cast_ofNat_Int, f2, f4]
  (with_reducible refine newS_in ?_); intro b5 f5; simp only [upd_none] at f5
  simp only [sZ, initT, optI, splice, reduceIte, reduceCtorEq, Nat.reduceEqDiff, Nat.reduceAdd, Nat.reduceSub, Nat.reduceMul, Nat.reduceLeDiff, Nat.reduceLT, Int.reduceLT, Int.reduceLE, Int.reduceToNat, Int.reduceEq, Int.cast_ofNat_Int, f2, f4, f5, hne]
  cases hcl : closedF m
  · have hF : findF m l = ⟨0, []⟩ := by unfold findF; rw [if_neg (by rw [hcl]; simp)]
    rw [hF]
    simp only [sZ, initT, optI, splice, reduceIte, reduceCtorEq, Nat.reduceEqDiff, Nat.reduceAdd, Nat.reduceSub, Nat.reduceMul, Nat.reduceLeDiff, Nat.reduceLT, Int.reduceLT, Int.reduceLE, Int.reduceToNat, Int.reduceEq, Int.cast_ofNat_Int, f2, f4, f5, Bool.not_false]
    exact OutQ.le (by repeat (first | exact SExt.refl _ | (refine SExt.old ?_ (by first | (simp only [*]; done) | (simp only [upd_none]; assumption) | (simp only [upd_none, *, not_false_eq_true, and_self]; done)) _))) hz
  simp only [sZ, initT, optI, splice, reduceIte, reduceCtorEq, Nat.reduceEqDiff, Nat.reduceAdd, Nat.reduceSub, Nat.reduceMul, Nat.reduceLeDiff, Nat.reduceLT, Int.reduceLT, Int.reduceLE, Int.reduceToNat, Int.reduceEq, Int.cast_ofNat_Int, f2, f4, f5, Bool.not_true]
  refine callS_quiet (hc _ _) ?_
  cases hch : changeV l
  · have hF : findF m l = ⟨0, []⟩ := by unfold findF; rw [if_neg (by rw [hch]; simp)]
    rw [hF]
    simp only [sZ, initT, optI, splice, reduceIte, reduceCtorEq, Nat.reduceEqDiff, Nat.reduceAdd, Nat.reduceSub, Nat.reduceMul, Nat.reduceLeDiff, Nat.reduceLT, Int.reduceLT, Int.reduceLE, Int.reduceToNat, Int.reduceEq, Int.cast_ofNat_Int, f2, f4, f5, Bool.not_false]
    exact OutQ.le (by repeat (first | exact SExt.refl _ | (refine SExt.old ?_ (by first | (simp only [*]; done) | (simp only [upd_none]; assumption) | (simp only [upd_none, *, not_false_eq_true, and_self]; done)) _))) hz
  have hF : findF m l = findE m l := by unfold findF; rw [if_pos ⟨hcl, hch⟩]
  rw [hF]
  simp only [sZ, initT, optI, splice, reduceIte, reduceCtorEq, Nat.reduceEqDiff, Nat.reduceAdd, Nat.reduceSub, Nat.reduceMul, Nat.reduceLeDiff, Nat.reduceLT, Int.reduceLT, Int.reduceLE, Int.reduceToNat, Int.reduceEq, Int.cast_ofNat_Int, f2, f4, f5, Bool.not_true]
  clear ha hc hne hcl hch hF
  refine loop_L (α := Unit) l.length (fun j _ => [(1, .sl 15 (l.map encEdit) .no), (2, .ptr b2 0), (4, .ptr b4 0), (8, .int .i64 ((dropsF (l.take j) : Nat) : Int)), (30, .sl 15 (l.map encEdit) .no), (31, .int .i64 l.length), (32, .int .i64 j)])
    (fun _ _ => upd (upd s b2 (some (.cells [.sl 6 (m.map encObj) .no]))) b4 (some (.cells [.int .i64 0, .sl 1 [] .nil]))) (fun _ _ => k) (fun _ _ => True) () (by repeat (first | exact SExt.refl _ | (refine SExt.old ?_ (by first | (simp only [*]; done) | (simp only [upd_none]; assumption) | (simp only [upd_none, *, not_false_eq_true, and_self]; done)) _))) rfl (by (try simp only [TabLe_cons, TabLe_nil, tab_cons, tab_nil, upd_apply, Nat.reduceEqDiff, reduceIte, and_true]); repeat' (first | exact trivial | exact A.le_refl _ | exact le_strip_no _ _ _ | exact A.le_no _ _ _ | exact A.le_empty _ _ _ | refine And.intro ?_ ?_)) trivial ?_
  clear f5
  rintro j ⟨⟩ hj -
  try dsimp only
  simp only [sZ, initT, optI, splice, reduceIte, reduceCtorEq, Nat.reduceEqDiff, Nat.reduceAdd, Nat.reduceSub, Nat.reduceMul, Nat.reduceLeDiff, Nat.reduceLT, Int.reduceLT, Int.reduceLE, Int.reduceToNat, Int.reduceEq, Int.cast_ofNat_Int, f2, f4]
  refine brC_in (fun hlt => ?_) (fun hge => ?_)
  · have hj' : j < l.length := by have := of_decide_eq_true hlt; omega
    clear hlt
    have hw := wrap_succ hj' (by omega)
    have hg : (l.map encEdit)[j]? = some (encEdit l[j]) := editE.get hj'
    have hd := dropsF_take l hj'
    have hdl := dropsF_le (l.take j)
    rw [List.length_take] at hdl
    simp only [sZ, initT, optI, splice, reduceIte, reduceCtorEq, Nat.reduceEqDiff, Nat.reduceAdd, Nat.reduceSub, Nat.reduceMul, Nat.reduceLeDiff, Nat.reduceLT, Int.reduceLT, Int.reduceLE, Int.reduceToNat, Int.reduceEq, Int.cast_ofNat_Int, f2, f4, hg, len_encEdit, wh_encEdit, st_encEdit]
    (with_reducible refine newS_in ?_); intro b10 f10; simp only [upd_none] at f10
    simp only [sZ, initT, optI, splice, reduceIte, reduceCtorEq, Nat.reduceEqDiff, Nat.reduceAdd, Nat.reduceSub, Nat.reduceMul, Nat.reduceLeDiff, Nat.reduceLT, Int.reduceLT, Int.reduceLE, Int.reduceToNat, Int.reduceEq, Int.cast_ofNat_Int, f2, f4, f10, op_edit, hw, len_encEdit, wh_encEdit, st_encEdit]
    refine brC_in (fun h5 => ?_) (fun h5 => ?_)
    · rw [h5] at hd
      have hw2 : IntKind.i64.wrap (((dropsF (l.take j) : Nat) : Int) + 1) = ((dropsF (l.take (j + 1)) : Nat) : Int) := by rw [hd, wrap64 (by omega) (by omega)]; rfl
      simp only [sZ, initT, optI, splice, reduceIte, reduceCtorEq, Nat.reduceEqDiff, Nat.reduceAdd, Nat.reduceSub, Nat.reduceMul, Nat.reduceLeDiff, Nat.reduceLT, Int.reduceLT, Int.reduceLE, Int.reduceToNat, Int.reduceEq, Int.cast_ofNat_Int, hw, hw2]
      exact next_L hj' () (by repeat (first | exact SExt.refl _ | (refine SExt.old ?_ (by first | (simp only [*]; done) | (simp only [upd_none]; assumption) | (simp only [upd_none, *, not_false_eq_true, and_self]; done)) _))) rfl (by (try simp only [TabLe_cons, TabLe_nil, tab_cons, tab_nil, upd_apply, Nat.reduceEqDiff, reduceIte, and_true]); repeat' (first | exact trivial | exact A.le_refl _ | exact le_strip_no _ _ _ | exact A.le_no _ _ _ | exact A.le_empty _ _ _ | refine And.intro ?_ ?_)) trivial
    · rw [h5] at hd
      have hw2 : dropsF (l.take (j + 1)) = dropsF (l.take j) := hd
      simp only [sZ, initT, optI, splice, reduceIte, reduceCtorEq, Nat.reduceEqDiff, Nat.reduceAdd, Nat.reduceSub, Nat.reduceMul, Nat.reduceLeDiff, Nat.reduceLT, Int.reduceLT, Int.reduceLE, Int.reduceToNat, Int.reduceEq, Int.cast_ofNat_Int, hw]
      refine next_L hj' () (by repeat (first | exact SExt.refl _ | (refine SExt.old ?_ (by first | (simp only [*]; done) | (simp only [upd_none]; assumption) | (simp only [upd_none, *, not_false_eq_true, and_self]; done)) _))) rfl ?_ trivial
      rw [hw2]
      exact (by (try simp only [TabLe_cons, TabLe_nil, tab_cons, tab_nil, upd_apply, Nat.reduceEqDiff, reduceIte, and_true]); repeat' (first | exact trivial | exact A.le_refl _ | exact le_strip_no _ _ _ | exact A.le_no _ _ _ | exact A.le_empty _ _ _ | refine And.intro ?_ ?_))
  · have hje : j = l.length := by have := of_decide_eq_false hge; omega
    subst hje
    rw [List.take_length]
    simp only [sZ, initT, optI, splice, reduceIte, reduceCtorEq, Nat.reduceEqDiff, Nat.reduceAdd, Nat.reduceSub, Nat.reduceMul, Nat.reduceLeDiff, Nat.reduceLT, Int.reduceLT, Int.reduceLE, Int.reduceToNat, Int.reduceEq, Int.cast_ofNat_Int, f2, f4]
    refine callS_R (hs _ _) ?_
    rintro r s' k' ⟨rfl, mb, ob, g1, g2, g3, g4, rfl, rfl⟩
    simp only [upd_none] at g1 g2
    have hrow := susp_row m l hm.len (fun o ho => (hm.obj o ho).tags) (fun e he => (hf e he).obj.tags) (mb := mb) (ob := ob)
      (s := upd (upd (upd (upd s b2 (some (.cells [.sl 6 (m.map encObj) .no]))) b4 (some (.cells [.int .i64 0, .sl 1 [] .nil]))) mb (some (.cells [.sl 6 (m.map encObj) .no]))) ob (some (.cells [.fn 58 [.ptr mb 0]])))
      (by simp only [upd_apply, g3, g4, reduceIte]) (by simp only [upd_apply, g3, g4, reduceIte])
    have hlen : (suspA ob).length = 4 := rfl
    generalize hsu : suspA ob = su at *
    simp only [sZ, initT, optI, splice, reduceIte, reduceCtorEq, Nat.reduceEqDiff, Nat.reduceAdd, Nat.reduceSub, Nat.reduceMul, Nat.reduceLeDiff, Nat.reduceLT, Int.reduceLT, Int.reduceLE, Int.reduceToNat, Int.reduceEq, Int.cast_ofNat_Int, f2, f4, hlen]
    clear hs
    generalize hB : upd (upd (upd (upd s b2 (some (.cells [.sl 6 (m.map encObj) .no]))) b4 (some (.cells [.int .i64 0, .sl 1 [] .nil]))) mb (some (.cells [.sl 6 (m.map encObj) .no]))) ob (some (.cells [.fn 58 [.ptr mb 0]])) = sB at *
    have hx : SExt s sB := by
      rw [← hB]
      exact SExt.old (SExt.old (SExt.old (SExt.old (SExt.refl _) f2 _) f4.2 _) g1.2.2 _) g2.2.2 _
    have h4 : sB b4 = some (.cells [.int .i64 0, .sl 1 [] .nil]) := by
      rw [← hB]
      simp only [upd_apply, g1, g2, reduceIte]
    have f4' := f4.2
    have hout : ∀ (b12 : Nat) (hb : sB b12 = none) (x : Blk) (t : Nat → A) (e : Evid) (cs : List A), A.le (.agg cs) (.agg (encEvid e)) → OutQ s k' (.agg (encEvid e)) (.agg cs) ⟨t, upd (upd sB b12 (some x)) b4 (some (.cells cs)), k'⟩ := by
      intro b12 hb x t e cs hle
      exact OutQ.le (SExt.old (SExt.old hx (hx.none hb) _) f4' _) hle
    clear hB hsu f2 f4 g1 g2 g3 g4 hge hj
    refine loop_L (α := Unit) 4 (fun j _ => [(1, .sl 15 (l.map encEdit) .no), (4, .ptr b4 0), (8, .int .i64 (dropsF l : Nat)), (43, .sl 4 su .full), (44, .int .i64 4), (45, .int .i64 j)])
      (fun _ _ => sB) (fun _ _ => k') (fun j _ => ∀ i, i < j → kindE m l ((i : Int) + 1) = none) () (SExt.refl _) rfl (by (try simp only [TabLe_cons, TabLe_nil, tab_cons, tab_nil, upd_apply, Nat.reduceEqDiff, reduceIte, and_true]); repeat' (first | exact trivial | exact A.le_refl _ | exact le_strip_no _ _ _ | exact A.le_no _ _ _ | exact A.le_empty _ _ _ | refine And.intro ?_ ?_)) (fun i h => by omega) ?_
    rintro j ⟨⟩ hj hall
    try dsimp only
    simp only [sZ, initT, optI, splice, reduceIte, reduceCtorEq, Nat.reduceEqDiff, Nat.reduceAdd, Nat.reduceSub, Nat.reduceMul, Nat.reduceLeDiff, Nat.reduceLT, Int.reduceLT, Int.reduceLE, Int.reduceToNat, Int.reduceEq, Int.cast_ofNat_Int]
    refine brC_in (fun hlt => ?_) (fun hge => ?_)
    · have hj' : j < 4 := by have := of_decide_eq_true hlt; omega
      clear hlt
      have hw : IntKind.i64.wrap ((j : Int) + 1) = ((j + 1 : Nat) : Int) := wrap64 (by omega) (by omega)
      obtain ⟨fs, caps, ft, hg, hS, hT⟩ := hrow j hj'
      have p1 : (0 : Int) ≤ j := by omega
      have p2 : (j : Int) < (su.length : Int) := by omega
      generalize hκ : ((j : Int) + 1) = κ at hg hS hT
      simp only [sZ, initT, optI, splice, reduceIte, reduceCtorEq, Nat.reduceEqDiff, Nat.reduceAdd, Nat.reduceSub, Nat.reduceMul, Nat.reduceLeDiff, Nat.reduceLT, Int.reduceLT, Int.reduceLE, Int.reduceToNat, Int.reduceEq, Int.cast_ofNat_Int, hg, p1, p2, Int.toNat_natCast]
      (with_reducible refine newS_in ?_); intro b12 f12; simp only [upd_none] at f12
      have n1 : ¬ b4 = b12 := fun e => by subst e; rw [h4] at f12; cases f12
      have hkn : ∀ (h : κ = 1 ∧ 2 * dropsF l ≤ l.length), kindE m l κ = none := fun h => by unfold kindE; rw [if_pos h]
      have hkm : ∀ (h : ¬ (κ = 1 ∧ 2 * dropsF l ≤ l.length)), kindE m l κ = (match (List.range l.length).find? (stopE m l κ) with
          | none => none
          | some i => if fullE m l κ i = true then some ⟨κ, (firstE m l κ i).map Int.ofNat⟩ else none) := fun h => by unfold kindE; rw [if_neg h]
      have hnext : kindE m l κ = none → ∀ i, i < j + 1 → kindE m l ((i : Int) + 1) = none := by
        intro h i hi
        by_cases hij : i = j
        · subst hij; rw [hκ]; exact h
        · exact hall i (by omega)
      have hdl := dropsF_le l
      have hw2 : IntKind.i64.wrap (2 * ((dropsF l : Nat) : Int)) = 2 * ((dropsF l : Nat) : Int) := wrap64 (by omega) (by omega)
      by_cases hsk : κ = 1 ∧ 2 * dropsF l ≤ l.length
      · have c1 : decide (κ = 1) = true := decide_eq_true hsk.1
        have c2 : decide (2 * ((dropsF l : Nat) : Int) ≤ (l.length : Int)) = true := decide_eq_true (by omega)
        simp only [sZ, initT, optI, splice, reduceIte, reduceCtorEq, Nat.reduceEqDiff, Nat.reduceAdd, Nat.reduceSub, Nat.reduceMul, Nat.reduceLeDiff, Nat.reduceLT, Int.reduceLT, Int.reduceLE, Int.reduceToNat, Int.reduceEq, Int.cast_ofNat_Int, n1, f12, h4, c1, c2, hw, hw2]
        exact next_L hj' () (by repeat (first | exact SExt.refl _ | (refine SExt.old ?_ (by first | (simp only [*]; done) | (simp only [upd_none]; assumption) | (simp only [upd_none, *, not_false_eq_true, and_self]; done)) _))) rfl (by (try simp only [TabLe_cons, TabLe_nil, tab_cons, tab_nil, upd_apply, Nat.reduceEqDiff, reduceIte, and_true]); repeat' (first | exact trivial | exact A.le_refl _ | exact le_strip_no _ _ _ | exact A.le_no _ _ _ | exact A.le_empty _ _ _ | refine And.intro ?_ ?_)) (hnext (hkn hsk))
      have hkm' := hkm hsk
      have hin : ∀ (t : Nat → A) (Q : PX → St → Prop) (h1 : t 1 = .sl 15 (l.map encEdit) .no) (h4 : t 4 = .ptr b4 0) (h8 : t 8 = .int .i64 (dropsF l : Nat)) (h12 : t 12 = .ptr b12 0) (h43 : t 43 = .sl 4 su .full) (h44 : t 44 = .int .i64 4) (h45 : t 45 = .int .i64 j), True := fun _ _ _ _ _ _ _ _ _ => trivial
      clear hin hkn hkm
      have hcase : (decide (κ = 1) = false) ∨ (decide (κ = 1) = true ∧ decide (2 * ((dropsF l : Nat) : Int) ≤ (l.length : Int)) = false) := by
        by_cases c1 : κ = 1
        · exact .inr ⟨decide_eq_true c1, decide_eq_false (by omega)⟩
        · exact .inl (decide_eq_false c1)
      have hF := fun (i : Nat) (hi : i < l.length) (s'' : Hp) (h : SExt sB s'') (h12 : s'' b12 = some (.cells [.int .i64 κ, .int .i64 (manyE κ : Nat), .fn fs caps, .fn ft []])) (k'' : Nat → Tk) =>
        @spec_first l i (manyE κ) hl (by omega) (fitsE m κ) 34 [.ptr b12 0] s'' k'' (fun x hx' b hb hbm k3 =>
          spec_fits x b (by omega) fs ft caps (showE m κ x) (fun y => togE κ y x) (.int .i64 κ) (.int .i64 (manyE κ : Nat)) h12 (fun s3 h3 => hS x s3 k3 (SExt.trans h h3)) (fun y hy s3 => hT y x s3 k3 (hbm y hy)))
      rcases hcase with c1 | ⟨c1, c2⟩
      all_goals first | simp only [sZ, initT, optI, splice, reduceIte, reduceCtorEq, Nat.reduceEqDiff, Nat.reduceAdd, Nat.reduceSub, Nat.reduceMul, Nat.reduceLeDiff, Nat.reduceLT, Int.reduceLT, Int.reduceLE, Int.reduceToNat, Int.reduceEq, Int.cast_ofNat_Int, n1, f12, h4, c1, c2, hw2] | simp only [sZ, initT, optI, splice, reduceIte, reduceCtorEq, Nat.reduceEqDiff, Nat.reduceAdd, Nat.reduceSub, Nat.reduceMul, Nat.reduceLeDiff, Nat.reduceLT, Int.reduceLT, Int.reduceLE, Int.reduceToNat, Int.reduceEq, Int.cast_ofNat_Int, n1, f12, h4, c1, hw2]
      all_goals
        refine loop_L (α := Unit) l.length (fun i _ => [(1, .sl 15 (l.map encEdit) .no), (4, .ptr b4 0), (8, .int .i64 (dropsF l : Nat)), (12, .ptr b12 0), (43, .sl 4 su .full), (44, .int .i64 4), (45, .int .i64 j), (59, .sl 15 (l.map encEdit) .no), (60, .int .i64 l.length), (61, .int .i64 i)])
          (fun _ _ => upd sB b12 (some (.cells [.int .i64 κ, .int .i64 (manyE κ : Nat), .fn fs caps, .fn ft []]))) (fun _ _ => k') (fun i _ => ∀ i', i' < i → stopE m l κ i' = false) () (SExt.refl _) rfl (by (try simp only [TabLe_cons, TabLe_nil, tab_cons, tab_nil, upd_apply, Nat.reduceEqDiff, reduceIte, and_true]); repeat' (first | exact trivial | exact A.le_refl _ | exact le_strip_no _ _ _ | exact A.le_no _ _ _ | exact A.le_empty _ _ _ | refine And.intro ?_ ?_)) (fun i h => by omega) ?_
        rintro i ⟨⟩ hi hst
        try dsimp only
        simp only [sZ, initT, optI, splice, reduceIte, reduceCtorEq, Nat.reduceEqDiff, Nat.reduceAdd, Nat.reduceSub, Nat.reduceMul, Nat.reduceLeDiff, Nat.reduceLT, Int.reduceLT, Int.reduceLE, Int.reduceToNat, Int.reduceEq, Int.cast_ofNat_Int, n1, f12, h4]
        refine brC_in (fun hlt => ?_) (fun hge => ?_)
        · have hi' : i < l.length := by have := of_decide_eq_true hlt; omega
          clear hlt
          have hwi := wrap_succ hi' (by omega)
          have hgi : (l.map encEdit)[i]? = some (encEdit l[i]) := editE.get hi'
          have hstop : stopE m l κ i = (showE m κ l[i] && (!decide (κ = 4) || fullE m l κ i)) := by unfold stopE; rw [atE_get hi']
          have hst' : stopE m l κ i = false → ∀ i', i' < i + 1 → stopE m l κ i' = false := by
            intro h i' hi2
            by_cases e : i' = i
            · rw [e]; exact h
            · exact hst i' (by omega)
          simp only [sZ, initT, optI, splice, reduceIte, reduceCtorEq, Nat.reduceEqDiff, Nat.reduceAdd, Nat.reduceSub, Nat.reduceMul, Nat.reduceLeDiff, Nat.reduceLT, Int.reduceLT, Int.reduceLE, Int.reduceToNat, Int.reduceEq, Int.cast_ofNat_Int, n1, f12, h4, hgi, len_encEdit, wh_encEdit, st_encEdit]
          (with_reducible refine newS_in ?_); intro b14 f14; simp only [upd_none] at f14
          have n2 : ¬ b4 = b14 := fun e => by subst e; rw [f14.2] at h4; cases h4
          simp only [sZ, initT, optI, splice, reduceIte, reduceCtorEq, Nat.reduceEqDiff, Nat.reduceAdd, Nat.reduceSub, Nat.reduceMul, Nat.reduceLeDiff, Nat.reduceLT, Int.reduceLT, Int.reduceLE, Int.reduceToNat, Int.reduceEq, Int.cast_ofNat_Int, n1, n2, f12, f14, h4, len_encEdit, wh_encEdit, st_encEdit]
          refine callS_quiet (hS l[i] _ _ (by repeat (first | exact SExt.refl _ | (refine SExt.old ?_ (by first | (simp only [*]; done) | (simp only [upd_none]; assumption) | (simp only [upd_none, *, not_false_eq_true, and_self]; done)) _)))) ?_
          cases hsh : showE m κ l[i]
          · rw [hsh, Bool.false_and] at hstop
            simp only [sZ, initT, optI, splice, reduceIte, reduceCtorEq, Nat.reduceEqDiff, Nat.reduceAdd, Nat.reduceSub, Nat.reduceMul, Nat.reduceLeDiff, Nat.reduceLT, Int.reduceLT, Int.reduceLE, Int.reduceToNat, Int.reduceEq, Int.cast_ofNat_Int, n1, n2, f12, f14, h4, hwi, Bool.not_false]
            exact next_L hi' () (by repeat (first | exact SExt.refl _ | (refine SExt.old ?_ (by first | (simp only [*]; done) | (simp only [upd_none]; assumption) | (simp only [upd_none, *, not_false_eq_true, and_self]; done)) _))) rfl (by (try simp only [TabLe_cons, TabLe_nil, tab_cons, tab_nil, upd_apply, Nat.reduceEqDiff, reduceIte, and_true]); repeat' (first | exact trivial | exact A.le_refl _ | exact le_strip_no _ _ _ | exact A.le_no _ _ _ | exact A.le_empty _ _ _ | refine And.intro ?_ ?_)) (hst' hstop)
          · rw [hsh, Bool.true_and] at hstop
            simp only [sZ, initT, optI, splice, reduceIte, reduceCtorEq, Nat.reduceEqDiff, Nat.reduceAdd, Nat.reduceSub, Nat.reduceMul, Nat.reduceLeDiff, Nat.reduceLT, Int.reduceLT, Int.reduceLE, Int.reduceToNat, Int.reduceEq, Int.cast_ofNat_Int, n1, n2, f12, f14, h4, hwi, Bool.not_true]
            refine callS_quiet (hF i hi' _ (by repeat (first | exact SExt.refl _ | (refine SExt.old ?_ (by first | (simp only [*]; done) | (simp only [upd_none]; assumption) | (simp only [upd_none, *, not_false_eq_true, and_self]; done)) _))) (by simp only [upd_apply, f14, reduceIte]) _) ?_
            have hfe : firstF (fitsE m κ) l (manyE κ) i = firstE m l κ i := rfl
            rw [hfe]
            have hfull : decide ((((firstE m l κ i).length : Nat) : Int) = ((manyE κ : Nat) : Int)) = fullE m l κ i := by
              unfold fullE
              rw [Bool.eq_iff_iff, decide_eq_true_eq, decide_eq_true_eq]
              omega
            cases hfu : fullE m l κ i
            · rw [hfu] at hfull
              simp only [sZ, initT, optI, splice, reduceIte, reduceCtorEq, Nat.reduceEqDiff, Nat.reduceAdd, Nat.reduceSub, Nat.reduceMul, Nat.reduceLeDiff, Nat.reduceLT, Int.reduceLT, Int.reduceLE, Int.reduceToNat, Int.reduceEq, Int.cast_ofNat_Int, n1, n2, f12, f14, h4, hfull]
              by_cases c4 : κ = 4
              · have d4 : (!decide (κ = 4)) = false := by rw [decide_eq_true c4]; rfl
                rw [hfu, d4] at hstop
                simp only [sZ, initT, optI, splice, reduceIte, reduceCtorEq, Nat.reduceEqDiff, Nat.reduceAdd, Nat.reduceSub, Nat.reduceMul, Nat.reduceLeDiff, Nat.reduceLT, Int.reduceLT, Int.reduceLE, Int.reduceToNat, Int.reduceEq, Int.cast_ofNat_Int, n1, n2, f12, f14, h4, d4, hwi]
                exact next_L hi' () (by repeat (first | exact SExt.refl _ | (refine SExt.old ?_ (by first | (simp only [*]; done) | (simp only [upd_none]; assumption) | (simp only [upd_none, *, not_false_eq_true, and_self]; done)) _))) rfl (by (try simp only [TabLe_cons, TabLe_nil, tab_cons, tab_nil, upd_apply, Nat.reduceEqDiff, reduceIte, and_true]); repeat' (first | exact trivial | exact A.le_refl _ | exact le_strip_no _ _ _ | exact A.le_no _ _ _ | exact A.le_empty _ _ _ | refine And.intro ?_ ?_)) (hst' hstop)
              · have d4 : (!decide (κ = 4)) = true := by rw [decide_eq_false c4]; rfl
                rw [d4, Bool.true_or] at hstop
                have hk0 : kindE m l κ = none := by
                  rw [hkm', range_find_hit hi' hst hstop]
                  dsimp only
                  rw [hfu, if_neg (by simp)]
                simp only [sZ, initT, optI, splice, reduceIte, reduceCtorEq, Nat.reduceEqDiff, Nat.reduceAdd, Nat.reduceSub, Nat.reduceMul, Nat.reduceLeDiff, Nat.reduceLT, Int.reduceLT, Int.reduceLE, Int.reduceToNat, Int.reduceEq, Int.cast_ofNat_Int, n1, n2, f12, f14, h4, d4, hw]
                exact next_L hj' () (by repeat (first | exact SExt.refl _ | (refine SExt.old ?_ (by first | (simp only [*]; done) | (simp only [upd_none]; assumption) | (simp only [upd_none, *, not_false_eq_true, and_self]; done)) _))) rfl (by (try simp only [TabLe_cons, TabLe_nil, tab_cons, tab_nil, upd_apply, Nat.reduceEqDiff, reduceIte, and_true]); repeat' (first | exact trivial | exact A.le_refl _ | exact le_strip_no _ _ _ | exact A.le_no _ _ _ | exact A.le_empty _ _ _ | refine And.intro ?_ ?_)) (hnext hk0)
            · rw [hfu] at hfull
              rw [hfu, Bool.or_true] at hstop
              have hk1 : kindE m l κ = some ⟨κ, (firstE m l κ i).map Int.ofNat⟩ := by
                rw [hkm', range_find_hit hi' hst hstop]
                dsimp only
                rw [hfu, if_pos rfl]
              have hfind : findE m l = ⟨κ, (firstE m l κ i).map Int.ofNat⟩ := findE_hit hj' hall (by rw [hκ]; exact hk1)
              rw [hfind]
              simp only [sZ, initT, optI, splice, reduceIte, reduceCtorEq, Nat.reduceEqDiff, Nat.reduceAdd, Nat.reduceSub, Nat.reduceMul, Nat.reduceLeDiff, Nat.reduceLT, Int.reduceLT, Int.reduceLE, Int.reduceToNat, Int.reduceEq, Int.cast_ofNat_Int, n1, n2, f12, f14, h4, hfull]
              refine OutQ.eq (SExt.old (SExt.old (SExt.old hx (hx.none f12) _) (hx.none f14.2) _) f4' _) ?_
              rw [evid_nat]
        · have hie : i = l.length := by have := of_decide_eq_false hge; omega
          subst hie
          have hk0 : kindE m l κ = none := by
            rw [hkm', range_find_none hst]
          simp only [sZ, initT, optI, splice, reduceIte, reduceCtorEq, Nat.reduceEqDiff, Nat.reduceAdd, Nat.reduceSub, Nat.reduceMul, Nat.reduceLeDiff, Nat.reduceLT, Int.reduceLT, Int.reduceLE, Int.reduceToNat, Int.reduceEq, Int.cast_ofNat_Int, n1, f12, h4, hw]
          exact next_L hj' () (by repeat (first | exact SExt.refl _ | (refine SExt.old ?_ (by first | (simp only [*]; done) | (simp only [upd_none]; assumption) | (simp only [upd_none, *, not_false_eq_true, and_self]; done)) _))) rfl (by (try simp only [TabLe_cons, TabLe_nil, tab_cons, tab_nil, upd_apply, Nat.reduceEqDiff, reduceIte, and_true]); repeat' (first | exact trivial | exact A.le_refl _ | exact le_strip_no _ _ _ | exact A.le_no _ _ _ | exact A.le_empty _ _ _ | refine And.intro ?_ ?_)) (hnext hk0)
    · have hje : j = 4 := by have := of_decide_eq_false hge; omega
      subst hje
      rw [findE_none hall]
      simp only [sZ, initT, optI, splice, reduceIte, reduceCtorEq, Nat.reduceEqDiff, Nat.reduceAdd, Nat.reduceSub, Nat.reduceMul, Nat.reduceLeDiff, Nat.reduceLT, Int.reduceLT, Int.reduceLE, Int.reduceToNat, Int.reduceEq, Int.cast_ofNat_Int, h4]
      exact OutQ.le (SExt.old hx f4' _) hz
end Go.Pv
