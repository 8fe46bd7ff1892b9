/- The values of the layer verify, and its small functions. -/
import Derived.Test.YtgmdhegbkbeihaaPvT
set_option linter.unusedVariables false
set_option linter.unusedSimpArgs false
set_option maxRecDepth 4000
set_option maxHeartbeats 1000000
namespace Go.Pv
open Go

structure Tag where
  key : ByteArray
  val : ByteArray
  deriving DecidableEq
structure Obj where
  id : ByteArray
  kind : Int
  x : Int
  y : Int
  refs : List ByteArray
  tags : List Tag
def encStr (s : ByteArray) : List A := [.str s]
def encTag (t : Tag) : List A := [.str t.key, .str t.val]
def encObj (o : Obj) : List A := [.str o.id, .int .i64 o.kind, .int .i64 o.x, .int .i64 o.y, .sl 1 (o.refs.map encStr) .no, .sl 2 (o.tags.map encTag) .no]
def encMap (l : List Obj) : List A := [.sl 6 (l.map encObj) .no]
theorem len_encObj (o : Obj) : (encObj o).length = 6 := rfl
theorem wh_encObj (o : Obj) : List.map A.strip (List.take 6 (encObj o)) = encObj o := rfl
theorem st_encObj (o : Obj) : List.map A.strip (encObj o) = encObj o := rfl
theorem len_encTag (t : Tag) : (encTag t).length = 2 := rfl
theorem wh_encTag (o : Tag) : List.map A.strip (List.take 2 (encTag o)) = encTag o := rfl
theorem st_encTag (o : Tag) : List.map A.strip (encTag o) = encTag o := rfl

theorem spec38 (o : Obj) (i : ByteArray) {s : Nat → Option Blk} {k : Nat → Tk} {id : Nat} (h : s id = some (.cells [.str i])) :
    Spec prg 38 [.agg (encObj o), .ptr id 0] s k (.bool (decide (o.id = i))) s k := by
  refine spec_tr prg_mixed tr_verify_object_1 (Nat.le_of_ble_eq_true rfl) rfl ?_
  unfold pc_verify_object_1 rs_verify_object_1
  simp only [pvZ, lz, nz, rr_one, upd_apply, upd_upd, initT, optI, splice, reduceIte, reduceCtorEq, Nat.reduceEqDiff, Nat.reduceAdd, Nat.reduceSub, Nat.reduceMul, Nat.reduceLeDiff, Nat.reduceLT, Int.reduceLT, Int.reduceLE, Int.reduceToNat, Int.reduceEq, Int.cast_ofNat_Int, and_true, not_false_eq_true, encObj]
  with_reducible refine newS_in ?_
  intro b hb
  simp only [] at hb
  have : ¬ id = b := fun e => by subst e; rw [h] at hb; cases hb
  simp only [pvZ, lz, nz, rr_one, upd_apply, upd_upd, initT, optI, splice, reduceIte, reduceCtorEq, Nat.reduceEqDiff, Nat.reduceAdd, Nat.reduceSub, Nat.reduceMul, Nat.reduceLeDiff, Nat.reduceLT, Int.reduceLT, Int.reduceLE, Int.reduceToNat, Int.reduceEq, Int.cast_ofNat_Int, and_true, not_false_eq_true, this, h]
  refine OutQ.eq (SExt.old (SExt.refl _) hb _) rfl

theorem fit_tag (x : Tag) : (fitBs [.str, .str] (encTag x) = true) = True := by simp [fitBs, fitB, encTag]
theorem eq_tag (x y : Tag) : eqCells (encTag x) (encTag y) = some (decide (x = y)) := by
  obtain ⟨a, b⟩ := x
  obtain ⟨c, d⟩ := y
  simp only [encTag, eqCells, Option.map_some, Tag.mk.injEq, Bool.and_true, Bool.decide_and]

end Go.Pv
