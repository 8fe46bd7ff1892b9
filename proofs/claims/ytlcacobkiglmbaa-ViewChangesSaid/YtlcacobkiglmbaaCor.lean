/- The values of the documents, and searches. -/
import Derived.Test.YtlcacobkiglmbaaPvT
set_option linter.unusedVariables false
set_option linter.unusedSimpArgs false
set_option maxRecDepth 4000
set_option maxHeartbeats 1000000
namespace Go.Pv
open Go

structure Tag where
  key : ByteArray
  val : ByteArray
  deriving DecidableEq
structure Obj where
  id : ByteArray
  kind : Int
  x : Int
  y : Int
  refs : List ByteArray
  tags : List Tag
def encStr (s : ByteArray) : List A := [.str s]
def encTag (t : Tag) : List A := [.str t.key, .str t.val]
def encObj (o : Obj) : List A := [.str o.id, .int .i64 o.kind, .int .i64 o.x, .int .i64 o.y, .sl 1 (o.refs.map encStr) .no, .sl 2 (o.tags.map encTag) .no]
def encMap (l : List Obj) : List A := [.sl 6 (l.map encObj) .no]
theorem get_str (r : ByteArray) : (encStr r)[0]? = some (.str r) := rfl
theorem len_encObj (o : Obj) : (encObj o).length = 6 := rfl
theorem wh_encObj (o : Obj) : List.map A.strip (List.take 6 (encObj o)) = encObj o := rfl
theorem st_encObj (o : Obj) : List.map A.strip (encObj o) = encObj o := rfl
theorem len_encTag (t : Tag) : (encTag t).length = 2 := rfl
theorem wh_encTag (o : Tag) : List.map A.strip (List.take 2 (encTag o)) = encTag o := rfl
theorem st_encTag (o : Tag) : List.map A.strip (encTag o) = encTag o := rfl
theorem fit_tag (x : Tag) : (fitBs [.str, .str] (encTag x) = true) = True := by simp [fitBs, fitB, encTag]
theorem eq_tag (x y : Tag) : eqCells (encTag x) (encTag y) = some (decide (x = y)) := by
  obtain ⟨a, b⟩ := x
  obtain ⟨c, d⟩ := y
  simp only [encTag, eqCells, Option.map_some, Tag.mk.injEq, Bool.and_true, Bool.decide_and]
/-- How the elements of a slice are written. -/
structure Enc (α : Type) where
  f : α → List A
  n : Nat
  len : ∀ x, (f x).length = n
  strip : ∀ x, (f x).map A.strip = f x
def strE : Enc ByteArray := ⟨encStr, 1, fun _ => rfl, fun _ => rfl⟩
def tagE : Enc Tag := ⟨encTag, 2, fun _ => rfl, fun _ => rfl⟩
def objE : Enc Obj := ⟨encObj, 6, fun _ => rfl, fun _ => rfl⟩
theorem Enc.whole {α : Type} (e : Enc α) (x : α) : ((e.f x).take e.n).map A.strip = e.f x := by
  rw [List.take_of_length_le (by rw [e.len]; exact Nat.le_refl _), e.strip]
theorem Enc.get {α : Type} (e : Enc α) {l : List α} {i : Nat} (h : i < l.length) : (l.map e.f)[i]? = some (e.f l[i]) := by simp [h]

def idxOf {α : Type} (p : α → Bool) (l : List α) : Int := match l.findIdx? p with
  | some i => i
  | none => -1
theorem idxOf_some {α : Type} {p : α → Bool} {l : List α} {i : Nat} (h : i < l.length) (hp : p l[i] = true) (hj : ∀ j (h : j < l.length), j < i → p l[j] = false) : idxOf p l = i := by
  unfold idxOf
  rw [List.findIdx?_eq_some_iff_getElem.2 ⟨h, hp, fun j hj' => by simpa using hj j (by omega) hj'⟩]
theorem idxOf_none {α : Type} {p : α → Bool} {l : List α} (hj : ∀ j (h : j < l.length), p l[j] = false) : idxOf p l = -1 := by
  unfold idxOf
  rw [List.findIdx?_eq_none_iff.2 fun x hx => by
    obtain ⟨j, h, rfl⟩ := List.getElem_of_mem hx
    exact hj j h]

noncomputable def pcIdx (esz : Nat) : PC := (.seq (.reg [⟨(.some 4), .none, (.mv (.c (.int .i64 0)))⟩] false .none) (.seq (.seq (.reg [⟨(.some 6), .none, (.mv (.t 0))⟩, ⟨(.some 7), .none, (.len false (.t 6))⟩, ⟨(.some 8), .none, (.mv (.c (.int .i64 0)))⟩] false .none) (.block 0 (.loop (.seq (.reg [⟨(.some 9), .none, (.bin .lss (.t 8) (.t 7))⟩] false .none) (.seq (.cond (.t 9) .skip (.exit 0)) (.seq (.block 1 (.seq (.reg [⟨(.some 10), .none, (.mv (.t 8))⟩, ⟨(.some 5), .none, (.mv (.t 10))⟩] false .none) (.seq (.reg [⟨(.some 11), .none, (.mv (.t 1))⟩, ⟨(.some 12), .none, (.mv (.t 0))⟩, ⟨(.some 13), .none, (.mv (.t 5))⟩, ⟨(.some 14), .none, (.idx esz (.t 12) (.t 13))⟩, ⟨(.some 15), .none, (.load (.some esz) (.t 14))⟩, ⟨(.some 16), .none, (.call false (.t 11) [(.t 15)])⟩] false .none) (.cond (.t 16) (.seq (.reg [⟨(.some 17), .none, (.mv (.t 5))⟩, ⟨(.some 4), .none, (.mv (.t 17))⟩] false .none) .ret) .skip)))) (.reg [⟨(.some 18), .none, (.bin .add (.t 8) (.c (.int .i64 1)))⟩, ⟨(.some 8), .none, (.mv (.t 18))⟩] false .none))))))) (.seq (.reg [⟨(.some 4), .none, (.mv (.c (.int .i64 (-1))))⟩] false .none) .ret)))
theorem spec_idx {α : Type} (e : Enc α) {f : FuncId} {n : Nat} (htr : trAll prg [] f = some (pcIdx e.n, [.tmp 4], n)) (hn : 2 ≤ n) (l : List α) (p : α → Bool) (fid : FuncId) (caps : List A) {s : Nat → Option Blk} {k : Nat → Tk} (hl : l.length < 4611686018427387904)
    (hp : ∀ o ∈ l, Spec prg fid (.agg (e.f o) :: caps) s k (.bool (p o)) s k) :
    Spec prg f [.sl e.n (l.map e.f) .no, .fn fid caps] s k (.int .i64 (idxOf p l)) s k := by
  refine spec_tr prg_mixed htr (by exact hn) rfl ?_
  unfold pcIdx
  simp only [sZ, initT, optI, splice, reduceIte, reduceCtorEq, Nat.reduceEqDiff, Nat.reduceAdd, Nat.reduceSub, Nat.reduceMul, Nat.reduceLeDiff, Nat.reduceLT, Int.reduceLT, Int.reduceLE, Int.reduceToNat, Int.reduceEq, Int.cast_ofNat_Int]
  refine loop_intro (fun m st => ∃ i, st.s = s ∧ st.k = k ∧ st.t 0 = .sl e.n (l.map e.f) .no ∧ st.t 1 = .fn fid caps ∧ st.t 7 = .int .i64 l.length ∧ st.t 8 = .int .i64 (i : Nat) ∧ m = l.length - i ∧ i ≤ l.length ∧ ∀ j (h : j < l.length), j < i → p l[j] = false) l.length ?_ ?_
  · refine ⟨0, ?_⟩
    simp only [sZ, initT, optI, splice, reduceIte, reduceCtorEq, Nat.reduceEqDiff, Nat.reduceAdd, Nat.reduceSub, Nat.reduceMul, Nat.reduceLeDiff, Nat.reduceLT, Int.reduceLT, Int.reduceLE, Int.reduceToNat, Int.reduceEq, Int.cast_ofNat_Int]
    first | exact ⟨rfl, by omega, by omega⟩ | exact ⟨by omega, by omega⟩ | (intro j hj h; omega)
  · rintro m ⟨t, s1, k1⟩ ⟨i, hs1, hk1, h0, h1, h7, h8, rfl, hi, hj⟩
    dsimp only at hs1 hk1 h0 h1 h7 h8
    subst hs1 hk1
    simp only [sZ, initT, optI, splice, reduceIte, reduceCtorEq, Nat.reduceEqDiff, Nat.reduceAdd, Nat.reduceSub, Nat.reduceMul, Nat.reduceLeDiff, Nat.reduceLT, Int.reduceLT, Int.reduceLE, Int.reduceToNat, Int.reduceEq, Int.cast_ofNat_Int, h0, h1, h7, h8]
    refine brC_in (fun hlt => ?_) (fun hge => ?_)
    · have hi' : i < l.length := by simpa using hlt
      simp only [sZ, initT, optI, splice, reduceIte, reduceCtorEq, Nat.reduceEqDiff, Nat.reduceAdd, Nat.reduceSub, Nat.reduceMul, Nat.reduceLeDiff, Nat.reduceLT, Int.reduceLT, Int.reduceLE, Int.reduceToNat, Int.reduceEq, Int.cast_ofNat_Int, h0, h1, h7, h8, e.get hi', e.len, e.whole]
      refine callS_quiet (r := .bool (p l[i])) ?_ ?_
      · exact hp _ (List.getElem_mem _)
      simp only [sZ, initT, optI, splice, reduceIte, reduceCtorEq, Nat.reduceEqDiff, Nat.reduceAdd, Nat.reduceSub, Nat.reduceMul, Nat.reduceLeDiff, Nat.reduceLT, Int.reduceLT, Int.reduceLE, Int.reduceToNat, Int.reduceEq, Int.cast_ofNat_Int, h0, h1, h7, h8]
      refine brC_in (fun hp1 => ?_) (fun hp0 => ?_)
      · simp only [sZ, initT, optI, splice, reduceIte, reduceCtorEq, Nat.reduceEqDiff, Nat.reduceAdd, Nat.reduceSub, Nat.reduceMul, Nat.reduceLeDiff, Nat.reduceLT, Int.reduceLT, Int.reduceLE, Int.reduceToNat, Int.reduceEq, Int.cast_ofNat_Int, h0, h1, h7, h8]
        rw [idxOf_some hi' hp1 hj]
        refine OutQ.eq (by repeat (first | exact SExt.refl _ | (refine SExt.old ?_ (by first | (simp only [*]; done) | (simp only [upd_none]; assumption) | (simp only [upd_none, *, not_false_eq_true, and_self]; done)) _))) rfl
      · simp only [sZ, initT, optI, splice, reduceIte, reduceCtorEq, Nat.reduceEqDiff, Nat.reduceAdd, Nat.reduceSub, Nat.reduceMul, Nat.reduceLeDiff, Nat.reduceLT, Int.reduceLT, Int.reduceLE, Int.reduceToNat, Int.reduceEq, Int.cast_ofNat_Int, h0, h1, h7, h8]
        refine nextQ_normal (l.length - (i + 1)) (by omega) (St.le_refl _) ⟨i + 1, ?_⟩
        simp only [sZ, initT, optI, splice, reduceIte, reduceCtorEq, Nat.reduceEqDiff, Nat.reduceAdd, Nat.reduceSub, Nat.reduceMul, Nat.reduceLeDiff, Nat.reduceLT, Int.reduceLT, Int.reduceLE, Int.reduceToNat, Int.reduceEq, Int.cast_ofNat_Int, h0, h1, h7, h8]
        refine ⟨by rw [wrap64 (by omega) (by omega)]; rfl, by omega, fun j hj1 hj2 => ?_⟩
        by_cases h : j = i
        · subst h; exact hp0
        · exact hj j hj1 (by omega)
    · have hi' : ¬ i < l.length := by simpa using hge
      simp only [sZ, initT, optI, splice, reduceIte, reduceCtorEq, Nat.reduceEqDiff, Nat.reduceAdd, Nat.reduceSub, Nat.reduceMul, Nat.reduceLeDiff, Nat.reduceLT, Int.reduceLT, Int.reduceLE, Int.reduceToNat, Int.reduceEq, Int.cast_ofNat_Int, h0, h1, h7, h8]
      rw [idxOf_none fun j hj' => hj j hj' (by omega)]
      refine OutQ.eq (by repeat (first | exact SExt.refl _ | (refine SExt.old ?_ (by first | (simp only [*]; done) | (simp only [upd_none]; assumption) | (simp only [upd_none, *, not_false_eq_true, and_self]; done)) _))) rfl
structure Edit where
  op : Int
  id : ByteArray
  other : ByteArray
  node : ByteArray
  x : Int
  y : Int
  key : ByteArray
  val : ByteArray
  refs : List ByteArray
  obj : Obj
def encEdit (e : Edit) : List A := [.int .i64 e.op, .str e.id, .str e.other, .str e.node, .int .i64 e.x, .int .i64 e.y, .str e.key, .str e.val, .sl 1 (e.refs.map encStr) .no,
  .str e.obj.id, .int .i64 e.obj.kind, .int .i64 e.obj.x, .int .i64 e.obj.y, .sl 1 (e.obj.refs.map encStr) .no, .sl 2 (e.obj.tags.map encTag) .no]
def editE : Enc Edit := ⟨encEdit, 15, fun _ => rfl, fun _ => rfl⟩
theorem len_encEdit (e : Edit) : (encEdit e).length = 15 := rfl
theorem wh_encEdit (o : Edit) : List.map A.strip (List.take 15 (encEdit o)) = encEdit o := rfl
theorem st_encEdit (o : Edit) : List.map A.strip (encEdit o) = encEdit o := rfl
theorem id_obj (o : Obj) : (encObj o)[0]? = some (.str o.id) := rfl
theorem key_tag (o : Tag) : (encTag o)[0]? = some (.str o.key) := rfl
theorem op_edit (o : Edit) : (encEdit o)[0]? = some (.int .i64 o.op) := rfl
theorem id_edit (e : Edit) : (encEdit e)[1]? = some (.str e.id) := rfl
end Go.Pv
