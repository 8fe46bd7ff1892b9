/- The values of the layer verify, and its small functions. -/
import Derived.Test.YtgmdhegbkbeihaaPvT
set_option linter.unusedVariables false
set_option linter.unusedSimpArgs false
set_option maxRecDepth 4000
namespace Go.Pv
open Go

structure Tag where
  key : ByteArray
  val : ByteArray
  deriving DecidableEq
structure Obj where
  id : ByteArray
  kind : Int
  x : Int
  y : Int
  refs : List ByteArray
  tags : List Tag
def encStr (s : ByteArray) : List A := [.str s]
def encTag (t : Tag) : List A := [.str t.key, .str t.val]
def encObj (o : Obj) : List A := [.str o.id, .int .i64 o.kind, .int .i64 o.x, .int .i64 o.y, .sl 1 (o.refs.map encStr) .no, .sl 2 (o.tags.map encTag) .no]
def encMap (l : List Obj) : List A := [.sl 6 (l.map encObj) .no]
theorem len_encObj (o : Obj) : (encObj o).length = 6 := rfl
theorem wh_encObj (o : Obj) : List.map A.strip (List.take 6 (encObj o)) = encObj o := rfl
theorem st_encObj (o : Obj) : List.map A.strip (encObj o) = encObj o := rfl
theorem len_encTag (t : Tag) : (encTag t).length = 2 := rfl
theorem wh_encTag (o : Tag) : List.map A.strip (List.take 2 (encTag o)) = encTag o := rfl
theorem st_encTag (o : Tag) : List.map A.strip (encTag o) = encTag o := rfl

theorem spec38 (o : Obj) (i : ByteArray) {s : Nat → Option Blk} {k : Nat → Tk} {id : Nat} (h : s id = some (.cells [.str i])) :
    Spec prg 38 [.agg (encObj o), .ptr id 0] s k (.bool (decide (o.id = i))) s k := by
  refine spec_tr prg_mixed tr38 (Nat.le_of_ble_eq_true rfl) rfl ?_
  unfold pc38 rs38
  simp only [pwp_cond, pwp_seq, pwp_block, pvC, runs_some, gdS_false, gdS_true, step_pick, step_load, step_store, step_fld, step_idx, step_idxA, step_getf, step_geti, step_bin, step_eqs, step_eqb, step_un, step_conv, step_len, step_mm, step_ext, step_call, step_callq, step_slc, step_look, pvO, pvK, pvQ, pvE, pvR, pvRC, fldA_eq, lenA_eq, pvV, pvB, pvB1, pvB2, pvL, upd_apply, initT, optI, lenI, splice, pvP, List.map_cons, List.map_nil, List.length_cons, List.length_nil, List.length_map, List.getElem?_cons_zero, List.getElem?_cons_succ, List.getElem?_nil, Option.getD_some, Option.getD_none, List.cons_append, List.nil_append, List.append_nil, List.drop_succ_cons, List.drop_zero, List.take_succ_cons, List.take_zero, List.drop_nil, List.take_nil, List.set_cons_zero, List.set_cons_succ, List.replicate_succ, List.replicate_zero, reduceIte, reduceCtorEq, Nat.add_zero, Nat.zero_add, not_true_eq_false, not_false_eq_true, and_true, true_and, and_self, Bool.false_eq_true, Bool.not_true, Bool.not_false, decide_true, decide_false, Int.toNat_natCast, Int.natCast_nonneg, Nat.le_refl, Nat.zero_le, Nat.reduceEqDiff, Nat.reduceAdd, Nat.reduceSub, Nat.reduceMul, Nat.reduceLeDiff, Nat.reduceLT, Int.reduceLT, Int.reduceLE, Int.reduceToNat, Int.cast_ofNat_Int, encObj]
  with_reducible refine newS_in ?_
  intro b hb
  simp only [] at hb
  have : ¬ id = b := fun e => by subst e; rw [h] at hb; cases hb
  simp only [pwp_cond, pwp_seq, pwp_block, pvC, runs_some, gdS_false, gdS_true, step_pick, step_load, step_store, step_fld, step_idx, step_idxA, step_getf, step_geti, step_bin, step_eqs, step_eqb, step_un, step_conv, step_len, step_mm, step_ext, step_call, step_callq, step_slc, step_look, pvO, pvK, pvQ, pvE, pvR, pvRC, fldA_eq, lenA_eq, pvV, pvB, pvB1, pvB2, pvL, upd_apply, initT, optI, lenI, splice, pvP, List.map_cons, List.map_nil, List.length_cons, List.length_nil, List.length_map, List.getElem?_cons_zero, List.getElem?_cons_succ, List.getElem?_nil, Option.getD_some, Option.getD_none, List.cons_append, List.nil_append, List.append_nil, List.drop_succ_cons, List.drop_zero, List.take_succ_cons, List.take_zero, List.drop_nil, List.take_nil, List.set_cons_zero, List.set_cons_succ, List.replicate_succ, List.replicate_zero, reduceIte, reduceCtorEq, Nat.add_zero, Nat.zero_add, not_true_eq_false, not_false_eq_true, and_true, true_and, and_self, Bool.false_eq_true, Bool.not_true, Bool.not_false, decide_true, decide_false, Int.toNat_natCast, Int.natCast_nonneg, Nat.le_refl, Nat.zero_le, Nat.reduceEqDiff, Nat.reduceAdd, Nat.reduceSub, Nat.reduceMul, Nat.reduceLeDiff, Nat.reduceLT, Int.reduceLT, Int.reduceLE, Int.reduceToNat, Int.cast_ofNat_Int, this, h]
  refine OutQ.eq (SExt.old (SExt.refl _) hb _) rfl

theorem fit_tag (x : Tag) : (fitBs [.str, .str] (encTag x) = true) = True := by simp [fitBs, fitB, encTag]
theorem eq_tag (x y : Tag) : eqCells (encTag x) (encTag y) = some (decide (x = y)) := by
  obtain ⟨a, b⟩ := x
  obtain ⟨c, d⟩ := y
  simp only [encTag, eqCells, Option.map_some, Tag.mk.injEq, Bool.and_true, Bool.decide_and]

end Go.Pv
