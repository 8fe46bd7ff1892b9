/- Comparing strings; the place of an Id in a valid map. -/
import Derived.Test.YtlcacobkiglmbaaOrdV
import Derived.Test.YtlcacobkiglmbaaLopM
import Derived.Test.YtlcacobkiglmbaaGrwB
set_option linter.unusedVariables false
set_option linter.unusedSimpArgs false
set_option maxRecDepth 4000
set_option maxHeartbeats 2000000
namespace Go.Pv
open Go

def cmpB (a b : ByteArray) : Int := Lib.compareBytes a.data.toList b.data.toList
theorem cmp_lt : ∀ a b : List UInt8, decide (Lib.compareBytes a b < 0) = Op.bytesLess a b
  | [], [] => rfl
  | [], b :: y => rfl
  | a :: x, [] => rfl
  | a :: x, b :: y => by
    have ih := cmp_lt x y
    unfold Lib.compareBytes Op.bytesLess
    by_cases h : a < b
    · rw [if_pos h, decide_eq_true h]
      rfl
    · rw [if_neg h, decide_eq_false h]
      by_cases h2 : b < a
      · have hne : (a == b) = false := by
          rw [beq_eq_false_iff_ne]
          rintro rfl
          exact UInt8.lt_irrefl _ h2
        rw [if_pos h2, hne]
        rfl
      · have he : a = b := by
          rw [UInt8.not_lt] at h h2
          exact UInt8.le_antisymm h2 h
        rw [if_neg h2, he, beq_self_eq_true, Bool.true_and, Bool.false_or]
        exact ih
theorem cmp_eq0 : ∀ a b : List UInt8, decide (Lib.compareBytes a b = 0) = decide (a = b)
  | [], [] => rfl
  | [], b :: y => rfl
  | a :: x, [] => rfl
  | a :: x, b :: y => by
    have ih := cmp_eq0 x y
    unfold Lib.compareBytes
    by_cases h : a < b
    · rw [if_pos h]
      have : ¬ (a :: x = b :: y) := fun e => by cases e; exact UInt8.lt_irrefl _ h
      rw [decide_eq_false this]
      rfl
    · rw [if_neg h]
      by_cases h2 : b < a
      · rw [if_pos h2]
        have : ¬ (a :: x = b :: y) := fun e => by cases e; exact UInt8.lt_irrefl _ h2
        rw [decide_eq_false this]
        rfl
      · have he : a = b := by
          rw [UInt8.not_lt] at h h2
          exact UInt8.le_antisymm h2 h
        rw [if_neg h2, ih, he]
        exact decide_eq_decide.2 (by simp)
theorem cmpB_lt (a b : ByteArray) : decide (cmpB a b < 0) = ltS a b := cmp_lt _ _
theorem cmpB_eq (a b : ByteArray) : decide (cmpB a b = 0) = decide (a = b) := by
  unfold cmpB
  rw [cmp_eq0]
  exact decide_eq_decide.2 ⟨fun h => ByteArray.ext (Array.toList_inj.1 h), fun h => by rw [h]⟩
theorem spec_cmp (a b : ByteArray) {s : Nat → Option Blk} {k : Nat → Tk} : Spec prg 60 [.str a, .str b] s k (.int .i64 (cmpB a b)) s k := by
  intro w E vs hS hvl hr
  have h0 := relv_str (hr 0 _ rfl)
  have h1 := relv_str (hr 1 _ rfl)
  have hv := args2 vs hvl
  rw [h0, h1] at hv
  subst hv
  have hc := Go.Proofs.Try.strings_Compare a b w
  obtain ⟨fn, cd, q1, q2, q3⟩ : ∃ fn cd, prg.funcs[60]? = some fn ∧ (fn.name == "runtime.NumGoroutine") = false ∧ fn.body = some cd := ⟨_, _, Go.Proofs.Try.func60, by kernel_rfl, rfl⟩
  unfold CallsV
  rw [run_callFunc q1 q2 q3]
  refine Calls.mono hc fun e w' h => ?_
  obtain ⟨rfl, rfl⟩ := h
  exact ⟨_, rfl, E, Reach.refl hS, .int ..⟩
theorem spec_at_1 (o : Obj) (x : ByteArray) {s : Nat → Option Blk} {k : Nat → Tk} : Spec prg 91 [.agg (encObj o), .str x] s k (.int .i64 (cmpB o.id x)) s k := by
  refine spec_tr prg_mixed tr_atlas_at_1 (Nat.le_of_ble_eq_true rfl) rfl ?_
  unfold pc_atlas_at_1 rs_atlas_at_1
  obtain ⟨id, kind, px, py, refs, tags⟩ := o
  dsimp only
  simp only [sZ, initT, optI, splice, reduceIte, reduceCtorEq, Nat.reduceEqDiff, Nat.reduceAdd, Nat.reduceSub, Nat.reduceMul, Nat.reduceLeDiff, Nat.reduceLT, Int.reduceLT, Int.reduceLE, Int.reduceToNat, Int.reduceEq, Int.cast_ofNat_Int, encObj]
  (with_reducible refine newS_in ?_); intro b2 f2; simp only [upd_none] at f2
  simp only [sZ, initT, optI, splice, reduceIte, reduceCtorEq, Nat.reduceEqDiff, Nat.reduceAdd, Nat.reduceSub, Nat.reduceMul, Nat.reduceLeDiff, Nat.reduceLT, Int.reduceLT, Int.reduceLE, Int.reduceToNat, Int.reduceEq, Int.cast_ofNat_Int, f2]
  refine callS_quiet (spec_cmp _ _) ?_
  simp only [sZ, initT, optI, splice, reduceIte, reduceCtorEq, Nat.reduceEqDiff, Nat.reduceAdd, Nat.reduceSub, Nat.reduceMul, Nat.reduceLeDiff, Nat.reduceLT, Int.reduceLT, Int.reduceLE, Int.reduceToNat, Int.reduceEq, Int.cast_ofNat_Int, f2]
  refine OutQ.eq (by repeat (first | exact SExt.refl _ | (refine SExt.old ?_ (by first | (simp only [*]; done) | (simp only [upd_none]; assumption) | (simp only [upd_none, *, not_false_eq_true, and_self]; done)) _))) rfl
def posF (m : List Obj) (x : ByteArray) : Nat := m.findIdx fun o => !ltS o.id x
def hasF (m : List Obj) (x : ByteArray) : Bool := m.any fun o => decide (o.id = x)
theorem pairwise_get {α : Type} {R : α → α → Prop} {l : List α} (h : l.Pairwise R) {i j : Nat} (hi : i < l.length) (hj : j < l.length) (hij : i < j) : R l[i] l[j] := List.pairwise_iff_getElem.1 h i j hi hj hij
theorem lt_id {m : List Obj} (h : mapV m = true) {i j : Nat} (hi : i < m.length) (hj : j < m.length) (hij : i < j) : ltS m[i].id m[j].id = true := by
  unfold mapV at h
  rw [Bool.and_eq_true] at h
  exact pairwise_get (chain_lt h.1).2 hi hj hij
theorem pvShr (a : Int) : binA .shr (.int .u64 a) (.int .u64 1) = some (.int .u64 (a / 2)) := by
  simp [binA, IntKind.bits]
theorem shr_half (f t : Nat) (h : f + t < 4611686018427387904) : IntKind.i64.wrap (IntKind.u64.wrap (IntKind.i64.wrap ((f : Int) + (t : Int))) / 2) = (((f + t) / 2 : Nat) : Int) := by
  have h1 : IntKind.i64.wrap ((f : Int) + (t : Int)) = (f : Int) + (t : Int) := wrap64 (by omega) (by omega)
  have h2 : IntKind.u64.wrap ((f : Int) + (t : Int)) = (f : Int) + (t : Int) := by
    simp [IntKind.wrap, IntKind.bits, IntKind.signed]
    omega
  rw [h1, h2, wrap64 (by omega) (by omega)]
  omega
theorem pos_eq {m : List Obj} {x : ByteArray} {f : Nat} (hf : f ≤ m.length) (hlo : ∀ i (h : i < m.length), i < f → ltS m[i].id x = true) (hhi : ∀ i (h : i < m.length), f ≤ i → ltS m[i].id x = false) : posF m x = f := by
  unfold posF
  by_cases h : f < m.length
  · rw [List.findIdx_eq h]
    exact ⟨by rw [hhi f h (Nat.le_refl _)]; rfl, fun j hj => by rw [hlo j (by omega) hj]; rfl⟩
  · have : f = m.length := by omega
    rw [this]
    refine List.findIdx_eq_length.2 fun o ho => ?_
    obtain ⟨i, hi, rfl⟩ := List.getElem_of_mem ho
    rw [hlo i hi (by omega)]
    rfl
theorem pos_has {m : List Obj} {x : ByteArray} (hv : mapV m = true) {f : Nat} (hlo : ∀ i (h : i < m.length), i < f → ltS m[i].id x = true) (hhi : ∀ i (h : i < m.length), f ≤ i → ltS m[i].id x = false) : hasF m x = if h : f < m.length then decide (m[f].id = x) else false := by
  unfold hasF
  rw [Bool.eq_iff_iff, List.any_eq_true]
  constructor
  · rintro ⟨o, ho, he⟩
    obtain ⟨i, hi, rfl⟩ := List.getElem_of_mem ho
    have he := of_decide_eq_true he
    have hif : f ≤ i := by
      refine Nat.le_of_not_lt fun h => ?_
      have := hlo i hi h
      rw [he, lt_irrefl] at this
      cases this
    have hf : f < m.length := by omega
    rw [dif_pos hf]
    by_cases e : f = i
    · subst e; exact decide_eq_true he
    · have h1 := lt_id hv hf hi (by omega)
      have h2 := hhi f hf (Nat.le_refl _)
      rw [← he, h1] at h2
      cases h2
  · intro h
    split at h
    · rename_i hf
      exact ⟨m[f], List.getElem_mem hf, h⟩
    · cases h
theorem spec_bsf (m : List Obj) (x : ByteArray) (hv : mapV m = true) (hl : m.length < 1152921504606846976) {s : Nat → Option Blk} {k : Nat → Tk} : Spec prg 90 [.sl 6 (m.map encObj) .no, .str x, .fn 91 []] s k (.tup [.int .i64 (posF m x : Nat), .bool (hasF m x)]) s k := by
  refine spec_tr prg_mixed tr_slices_BinarySearchFunc_Object (Nat.le_of_ble_eq_true rfl) rfl ?_
  unfold pc_slices_BinarySearchFunc_Object rs_slices_BinarySearchFunc_Object
  simp only [sZ, initT, optI, splice, reduceIte, reduceCtorEq, Nat.reduceEqDiff, Nat.reduceAdd, Nat.reduceSub, Nat.reduceMul, Nat.reduceLeDiff, Nat.reduceLT, Int.reduceLT, Int.reduceLE, Int.reduceToNat, Int.reduceEq, Int.cast_ofNat_Int]
  refine loop_M (α := Nat × Nat) (fun a => a.2 - a.1) (fun a => [(0, .sl 6 (m.map encObj) .no), (1, .str x), (2, .fn 91 []), (8, .int .i64 m.length), (9, .int .i64 a.1), (10, .int .i64 a.2)]) (fun _ => s) (fun _ => k)
    (fun a => a.1 ≤ a.2 ∧ a.2 ≤ m.length ∧ (∀ i (h : i < m.length), i < a.1 → ltS m[i].id x = true) ∧ ∀ i (h : i < m.length), a.2 ≤ i → ltS m[i].id x = false) (0, m.length) (SExt.refl _) rfl (by (try simp only [TabLe_cons, TabLe_nil, tab_cons, tab_nil, upd_apply, Nat.reduceEqDiff, reduceIte, and_true]); repeat' (first | exact trivial | exact A.le_refl _ | exact le_strip_no _ _ _ | exact A.le_no _ _ _ | exact A.le_empty _ _ _ | refine And.intro ?_ ?_)) ⟨by omega, by omega, fun i _ h => by omega, fun i h h2 => by omega⟩ ?_
  rintro ⟨f, t⟩ ⟨hft, htm, hlo, hhi⟩
  dsimp only at hft htm hlo hhi ⊢
  simp only [sZ, initT, optI, splice, reduceIte, reduceCtorEq, Nat.reduceEqDiff, Nat.reduceAdd, Nat.reduceSub, Nat.reduceMul, Nat.reduceLeDiff, Nat.reduceLT, Int.reduceLT, Int.reduceLE, Int.reduceToNat, Int.reduceEq, Int.cast_ofNat_Int]
  refine brC_in (fun hlt => ?_) (fun hge => ?_)
  · have hlt' : f < t := by have := of_decide_eq_true hlt; omega
    clear hlt
    have hh := shr_half f t (by omega)
    have hq : (f + t) / 2 < m.length := by omega
    have hg : (m.map encObj)[(f + t) / 2]? = some (encObj m[(f + t) / 2]) := objE.get hq
    have p1 : (0 : Int) ≤ (((f + t) / 2 : Nat) : Int) := by omega
    have hf1 : f ≤ (f + t) / 2 := by omega
    have ht1 : (f + t) / 2 < t := by omega
    generalize hQ : (f + t) / 2 = q at *
    have hw := wrap_succ hq (by omega)
    simp only [sZ, initT, optI, splice, reduceIte, reduceCtorEq, Nat.reduceEqDiff, Nat.reduceAdd, Nat.reduceSub, Nat.reduceMul, Nat.reduceLeDiff, Nat.reduceLT, Int.reduceLT, Int.reduceLE, Int.reduceToNat, Int.reduceEq, Int.cast_ofNat_Int, pvShr, hh, hg, p1, Int.toNat_natCast, len_encObj, wh_encObj, st_encObj]
    refine callS_quiet (spec_at_1 _ _) ?_
    simp only [sZ, initT, optI, splice, reduceIte, reduceCtorEq, Nat.reduceEqDiff, Nat.reduceAdd, Nat.reduceSub, Nat.reduceMul, Nat.reduceLeDiff, Nat.reduceLT, Int.reduceLT, Int.reduceLE, Int.reduceToNat, Int.reduceEq, Int.cast_ofNat_Int, cmpB_lt]
    refine brC_in (fun c => ?_) (fun c => ?_)
    · simp only [sZ, initT, optI, splice, reduceIte, reduceCtorEq, Nat.reduceEqDiff, Nat.reduceAdd, Nat.reduceSub, Nat.reduceMul, Nat.reduceLeDiff, Nat.reduceLT, Int.reduceLT, Int.reduceLE, Int.reduceToNat, Int.reduceEq, Int.cast_ofNat_Int, hw]
      refine next_M (q + 1, t) (by show t - (q + 1) < t - f; omega) (SExt.refl _) rfl (by (try simp only [TabLe_cons, TabLe_nil, tab_cons, tab_nil, upd_apply, Nat.reduceEqDiff, reduceIte, and_true]); repeat' (first | exact trivial | exact A.le_refl _ | exact le_strip_no _ _ _ | exact A.le_no _ _ _ | exact A.le_empty _ _ _ | refine And.intro ?_ ?_)) ⟨by omega, htm, fun i hi hi2 => ?_, hhi⟩
      by_cases e : i = q
      · subst e; exact c
      · exact lt_trans (lt_id hv hi hq (by omega)) c
    · simp only [sZ, initT, optI, splice, reduceIte, reduceCtorEq, Nat.reduceEqDiff, Nat.reduceAdd, Nat.reduceSub, Nat.reduceMul, Nat.reduceLeDiff, Nat.reduceLT, Int.reduceLT, Int.reduceLE, Int.reduceToNat, Int.reduceEq, Int.cast_ofNat_Int]
      refine next_M (f, q) (by show q - f < t - f; omega) (SExt.refl _) rfl (by (try simp only [TabLe_cons, TabLe_nil, tab_cons, tab_nil, upd_apply, Nat.reduceEqDiff, reduceIte, and_true]); repeat' (first | exact trivial | exact A.le_refl _ | exact le_strip_no _ _ _ | exact A.le_no _ _ _ | exact A.le_empty _ _ _ | refine And.intro ?_ ?_)) ⟨by omega, by omega, hlo, fun i hi hi2 => ?_⟩
      by_cases e : i = q
      · subst e; exact c
      · cases hc : ltS m[i].id x with
        | false => rfl
        | true => rw [lt_trans (lt_id hv hq hi (by omega)) hc] at c; cases c
  · have hft' : f = t := by have := of_decide_eq_false hge; omega
    subst hft'
    clear hge
    rw [pos_eq htm hlo hhi, pos_has hv hlo hhi]
    by_cases hfm : f < m.length
    · have d1 : decide ((f : Int) < (m.length : Int)) = true := decide_eq_true (by omega)
      have hg : (m.map encObj)[f]? = some (encObj m[f]) := objE.get hfm
      have p1 : (0 : Int) ≤ (f : Int) := by omega
      rw [dif_pos hfm]
      simp only [sZ, initT, optI, splice, reduceIte, reduceCtorEq, Nat.reduceEqDiff, Nat.reduceAdd, Nat.reduceSub, Nat.reduceMul, Nat.reduceLeDiff, Nat.reduceLT, Int.reduceLT, Int.reduceLE, Int.reduceToNat, Int.reduceEq, Int.cast_ofNat_Int, d1, hg, p1, Int.toNat_natCast, len_encObj, wh_encObj, st_encObj]
      refine callS_quiet (spec_at_1 _ _) ?_
      simp only [sZ, initT, optI, splice, reduceIte, reduceCtorEq, Nat.reduceEqDiff, Nat.reduceAdd, Nat.reduceSub, Nat.reduceMul, Nat.reduceLeDiff, Nat.reduceLT, Int.reduceLT, Int.reduceLE, Int.reduceToNat, Int.reduceEq, Int.cast_ofNat_Int, cmpB_eq]
      refine OutQ.eq (by repeat (first | exact SExt.refl _ | (refine SExt.old ?_ (by first | (simp only [*]; done) | (simp only [upd_none]; assumption) | (simp only [upd_none, *, not_false_eq_true, and_self]; done)) _))) rfl
    · have d1 : decide ((f : Int) < (m.length : Int)) = false := decide_eq_false (by omega)
      rw [dif_neg hfm]
      simp only [sZ, initT, optI, splice, reduceIte, reduceCtorEq, Nat.reduceEqDiff, Nat.reduceAdd, Nat.reduceSub, Nat.reduceMul, Nat.reduceLeDiff, Nat.reduceLT, Int.reduceLT, Int.reduceLE, Int.reduceToNat, Int.reduceEq, Int.cast_ofNat_Int, d1]
      refine OutQ.eq (by repeat (first | exact SExt.refl _ | (refine SExt.old ?_ (by first | (simp only [*]; done) | (simp only [upd_none]; assumption) | (simp only [upd_none, *, not_false_eq_true, and_self]; done)) _))) rfl
theorem spec_at (m : List Obj) (x : ByteArray) (hv : mapV m = true) (hl : m.length < 1152921504606846976) {s : Nat → Option Blk} {k : Nat → Tk} : Spec prg 51 [.agg (encMap m), .str x] s k (.tup [.int .i64 (posF m x : Nat), .bool (hasF m x)]) s k := by
  refine spec_tr prg_mixed tr_atlas_at (Nat.le_of_ble_eq_true rfl) rfl ?_
  unfold pc_atlas_at rs_atlas_at
  simp only [sZ, initT, optI, splice, reduceIte, reduceCtorEq, Nat.reduceEqDiff, Nat.reduceAdd, Nat.reduceSub, Nat.reduceMul, Nat.reduceLeDiff, Nat.reduceLT, Int.reduceLT, Int.reduceLE, Int.reduceToNat, Int.reduceEq, Int.cast_ofNat_Int, encMap]
  (with_reducible refine newS_in ?_); intro b2 f2; simp only [upd_none] at f2
  simp only [sZ, initT, optI, splice, reduceIte, reduceCtorEq, Nat.reduceEqDiff, Nat.reduceAdd, Nat.reduceSub, Nat.reduceMul, Nat.reduceLeDiff, Nat.reduceLT, Int.reduceLT, Int.reduceLE, Int.reduceToNat, Int.reduceEq, Int.cast_ofNat_Int, f2]
  refine callS_quiet (spec_bsf m x hv hl) ?_
  simp only [sZ, initT, optI, splice, reduceIte, reduceCtorEq, Nat.reduceEqDiff, Nat.reduceAdd, Nat.reduceSub, Nat.reduceMul, Nat.reduceLeDiff, Nat.reduceLT, Int.reduceLT, Int.reduceLE, Int.reduceToNat, Int.reduceEq, Int.cast_ofNat_Int, f2]
  refine OutQ.eq (by repeat (first | exact SExt.refl _ | (refine SExt.old ?_ (by first | (simp only [*]; done) | (simp only [upd_none]; assumption) | (simp only [upd_none, *, not_false_eq_true, and_self]; done)) _))) rfl
theorem spec_valid_1 (m : List Obj) (hm : MapFit m) {s : Nat → Option Blk} {k : Nat → Tk} : Spec prg 89 [.agg (encMap m)] s k (.bool (!mapV m)) s k := by
  refine spec_tr prg_mixed tr_atlas_valid_1 (Nat.le_of_ble_eq_true rfl) rfl ?_
  unfold pc_atlas_valid_1 rs_atlas_valid_1
  have hv := fun s k => @spec_map m hm s k
  simp only [encMap] at hv
  simp only [sZ, initT, optI, splice, reduceIte, reduceCtorEq, Nat.reduceEqDiff, Nat.reduceAdd, Nat.reduceSub, Nat.reduceMul, Nat.reduceLeDiff, Nat.reduceLT, Int.reduceLT, Int.reduceLE, Int.reduceToNat, Int.reduceEq, Int.cast_ofNat_Int, encMap]
  (with_reducible refine newS_in ?_); intro b1 f1; simp only [upd_none] at f1
  simp only [sZ, initT, optI, splice, reduceIte, reduceCtorEq, Nat.reduceEqDiff, Nat.reduceAdd, Nat.reduceSub, Nat.reduceMul, Nat.reduceLeDiff, Nat.reduceLT, Int.reduceLT, Int.reduceLE, Int.reduceToNat, Int.reduceEq, Int.cast_ofNat_Int, f1]
  refine callS_quiet (hv _ _) ?_
  simp only [sZ, initT, optI, splice, reduceIte, reduceCtorEq, Nat.reduceEqDiff, Nat.reduceAdd, Nat.reduceSub, Nat.reduceMul, Nat.reduceLeDiff, Nat.reduceLT, Int.reduceLT, Int.reduceLE, Int.reduceToNat, Int.reduceEq, Int.cast_ofNat_Int, f1]
  refine OutQ.eq (by repeat (first | exact SExt.refl _ | (refine SExt.old ?_ (by first | (simp only [*]; done) | (simp only [upd_none]; assumption) | (simp only [upd_none, *, not_false_eq_true, and_self]; done)) _))) rfl
end Go.Pv
