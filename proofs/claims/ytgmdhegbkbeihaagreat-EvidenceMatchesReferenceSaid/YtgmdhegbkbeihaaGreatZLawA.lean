/- The small functions of verify. -/
import Derived.Test.YtgmdhegbkbeihaaGreatZCor
set_option linter.unusedVariables false
set_option linter.unusedSimpArgs false
set_option maxRecDepth 4000
set_option maxHeartbeats 1000000
namespace Go.Pv
open Go

theorem spec37 (l : List Obj) (p : Obj → Bool) (fid : FuncId) (caps : List A) {s : Nat → Option Blk} {k : Nat → Tk} (hl : l.length < 4611686018427387904) (hp : ∀ o ∈ l, Spec prg fid (.agg (encObj o) :: caps) s k (.bool (p o)) s k) :
    Spec prg 102 [.sl 6 (l.map encObj) .no, .fn fid caps] s k (.int .i64 (idxOf p l)) s k := spec_idx objE tr_slices_IndexFunc_Object (Nat.le_of_ble_eq_true rfl) l p fid caps hl hp
end Go.Pv
set_option linter.unusedVariables false
set_option linter.unusedSimpArgs false
set_option maxRecDepth 4000
set_option maxHeartbeats 1000000
namespace Go.Pv
open Go

def zeroObj : Obj := ⟨⟨#[]⟩, 0, 0, 0, [], []⟩
def objF (l : List Obj) (i : ByteArray) : Obj × Bool := match l.find? (fun o => decide (o.id = i)) with
  | some o => (o, true)
  | none => (zeroObj, false)
theorem idxOf_cases {α : Type} (p : α → Bool) (l : List α) : (idxOf p l = -1 ∧ l.find? p = none) ∨ ∃ (i : Nat) (h : i < l.length), idxOf p l = i ∧ l.find? p = some l[i] := by
  rcases h : l.findIdx? p with _ | i
  · left
    refine ⟨by simp [idxOf, h], ?_⟩
    rw [List.find?_eq_none]
    exact fun x hx => by simpa using List.findIdx?_eq_none_iff.1 h x hx
  · right
    obtain ⟨h1, h2, h3⟩ := List.findIdx?_eq_some_iff_getElem.1 h
    refine ⟨i, h1, by simp [idxOf, h], ?_⟩
    rw [List.find?_eq_some_iff_getElem]
    exact ⟨h2, i, h1, rfl, fun j hj => by simpa using h3 j hj⟩
def zcells : List A := [.str ⟨#[]⟩, .int .i64 0, .int .i64 0, .int .i64 0, .sl 1 [] .nil, .sl 2 [] .nil]
theorem le_zero : A.le (.agg zcells) (.agg (encObj zeroObj)) :=
  A.le_agg (.cons (A.le_refl _) (.cons (A.le_refl _) (.cons (A.le_refl _) (.cons (A.le_refl _) (.cons (A.le_empty _ _ _) (.cons (A.le_empty _ _ _) .nil))))))

theorem idxOf_any {α : Type} (p : α → Bool) (l : List α) : decide (0 ≤ idxOf p l) = l.any p := by
  rcases idxOf_cases p l with ⟨h1, h2⟩ | ⟨i, h, h1, h2⟩
  · rw [h1]
    have : l.any p = false := by
      rw [List.any_eq_false]
      exact fun x hx => by simpa using List.find?_eq_none.1 h2 x hx
    rw [this]
    rfl
  · rw [h1]
    have : l.any p = true := by
      rw [List.any_eq_true]
      exact ⟨l[i], List.getElem_mem h, by simpa using List.find?_some h2⟩
    rw [this]
    simp
theorem spec27 (l : List Edit) (p : Edit → Bool) (fid : FuncId) (caps : List A) {s : Nat → Option Blk} {k : Nat → Tk} (hl : l.length < 4611686018427387904) (hp : ∀ o ∈ l, Spec prg fid (.agg (encEdit o) :: caps) s k (.bool (p o)) s k) :
    Spec prg 69 [.sl 15 (l.map encEdit) .no, .fn fid caps] s k (.int .i64 (idxOf p l)) s k := spec_idx editE tr_slices_IndexFunc_Edit (Nat.le_of_ble_eq_true rfl) l p fid caps hl hp
theorem spec16 (l : List Edit) (p : Edit → Bool) (fid : FuncId) (caps : List A) {s : Nat → Option Blk} {k : Nat → Tk} (hl : l.length < 4611686018427387904) (hp : ∀ o ∈ l, Spec prg fid (.agg (encEdit o) :: caps) s k (.bool (p o)) s k) :
    Spec prg 35 [.sl 15 (l.map encEdit) .no, .fn fid caps] s k (.bool (l.any p)) s k := by
  refine spec_tr prg_mixed tr_slices_ContainsFunc_Edit (Nat.le_of_ble_eq_true rfl) rfl ?_
  unfold pc_slices_ContainsFunc_Edit rs_slices_ContainsFunc_Edit
  repeat' (first | (first | (with_reducible refine newS_in ?_; intro _ hid_; simp only [upd_none] at hid_) | (with_reducible refine newR_in ?_; intro _ hid_ hih_; simp only [upd_none, upd_none', rr_eqs2, and_true] at hid_ hih_) | (with_reducible refine mkmS_in ?_; intro _ hid_; simp only [upd_none] at hid_)) | (with_reducible refine brC_in (fun h_ => ?_) (fun h_ => ?_)) | (with_reducible refine brG_in (fun h_ => ?_) (fun h_ => ?_)) | (with_reducible refine brN_in (fun h_ => ?_) (fun h_ => ?_)) | simp only [sZ, initT, optI, splice, reduceIte, reduceCtorEq, Nat.reduceEqDiff, Nat.reduceAdd, Nat.reduceSub, Nat.reduceMul, Nat.reduceLeDiff, Nat.reduceLT, Int.reduceLT, Int.reduceLE, Int.reduceToNat, Int.reduceEq, Int.cast_ofNat_Int, *])
  refine callS_quiet (r := .int .i64 (idxOf p l)) (spec27 l p fid caps hl hp) ?_
  repeat' (first | (first | (with_reducible refine newS_in ?_; intro _ hid_; simp only [upd_none] at hid_) | (with_reducible refine newR_in ?_; intro _ hid_ hih_; simp only [upd_none, upd_none', rr_eqs2, and_true] at hid_ hih_) | (with_reducible refine mkmS_in ?_; intro _ hid_; simp only [upd_none] at hid_)) | (with_reducible refine brC_in (fun h_ => ?_) (fun h_ => ?_)) | (with_reducible refine brG_in (fun h_ => ?_) (fun h_ => ?_)) | (with_reducible refine brN_in (fun h_ => ?_) (fun h_ => ?_)) | simp only [sZ, initT, optI, splice, reduceIte, reduceCtorEq, Nat.reduceEqDiff, Nat.reduceAdd, Nat.reduceSub, Nat.reduceMul, Nat.reduceLeDiff, Nat.reduceLT, Int.reduceLT, Int.reduceLE, Int.reduceToNat, Int.reduceEq, Int.cast_ofNat_Int, *])
  rw [idxOf_any]
  refine OutQ.eq (by repeat (first | exact SExt.refl _ | (refine SExt.old ?_ (by first | (simp only [*]; done) | (simp only [upd_none]; assumption) | (simp only [upd_none, *, not_false_eq_true, and_self]; done)) _))) rfl
theorem list_eq_of_get {α : Type} {a b : List α} (hlen : a.length = b.length) (h : ∀ j (h1 : j < a.length) (h2 : j < b.length), a[j] = b[j]) : a = b := List.ext_getElem hlen h
theorem spec36 (a b : List Tag) {s : Nat → Option Blk} {k : Nat → Tk} (hl : a.length < 4611686018427387904) : Spec prg 68 [.sl 2 (a.map encTag) .no, .sl 2 (b.map encTag) .no] s k (.bool (decide (a = b))) s k := by
  refine spec_tr prg_mixed tr_slices_Equal_Tag (Nat.le_of_ble_eq_true rfl) rfl ?_
  unfold pc_slices_Equal_Tag rs_slices_Equal_Tag
  repeat' (first | (first | (with_reducible refine newS_in ?_; intro _ hid_; simp only [upd_none] at hid_) | (with_reducible refine newR_in ?_; intro _ hid_ hih_; simp only [upd_none, upd_none', rr_eqs2, and_true] at hid_ hih_) | (with_reducible refine mkmS_in ?_; intro _ hid_; simp only [upd_none] at hid_)) | (with_reducible refine brC_in (fun h_ => ?_) (fun h_ => ?_)) | (with_reducible refine brG_in (fun h_ => ?_) (fun h_ => ?_)) | (with_reducible refine brN_in (fun h_ => ?_) (fun h_ => ?_)) | simp only [sZ, initT, optI, splice, reduceIte, reduceCtorEq, Nat.reduceEqDiff, Nat.reduceAdd, Nat.reduceSub, Nat.reduceMul, Nat.reduceLeDiff, Nat.reduceLT, Int.reduceLT, Int.reduceLE, Int.reduceToNat, Int.reduceEq, Int.cast_ofNat_Int, *])
  · have : a ≠ b := fun e => by subst e; simp at h_
    refine OutQ.eq (by repeat (first | exact SExt.refl _ | (refine SExt.old ?_ (by first | (simp only [*]; done) | (simp only [upd_none]; assumption) | (simp only [upd_none, *, not_false_eq_true, and_self]; done)) _))) ?_
    simp [this]
  have hlen : a.length = b.length := by
    simp at h_
    omega
  refine loop_intro (fun m st => ∃ i, st.s = s ∧ st.k = k ∧ st.t 0 = .sl 2 (a.map encTag) .no ∧ st.t 1 = .sl 2 (b.map encTag) .no ∧ st.t 12 = .int .i64 a.length ∧ st.t 13 = .int .i64 (i : Nat) ∧ m = a.length - i ∧ i ≤ a.length ∧ ∀ j (h : j < a.length) (h2 : j < b.length), j < i → a[j] = b[j]) a.length ?_ ?_
  · exact ⟨0, rfl, rfl, rfl, rfl, rfl, rfl, by omega, by omega, by omega⟩
  · rintro m ⟨t, s1, k1⟩ ⟨i, hs1, hk1, h0, h1, h12, h13, rfl, hi, hj⟩
    dsimp only at hs1 hk1 h0 h1 h12 h13
    subst hs1 hk1
    clear h_
    simp only [sZ, initT, optI, splice, reduceIte, reduceCtorEq, Nat.reduceEqDiff, Nat.reduceAdd, Nat.reduceSub, Nat.reduceMul, Nat.reduceLeDiff, Nat.reduceLT, Int.reduceLT, Int.reduceLE, Int.reduceToNat, Int.reduceEq, Int.cast_ofNat_Int, h0, h1, h12, h13]
    refine brC_in (fun hlt => ?_) (fun hge => ?_)
    · have hi' : i < a.length := by simpa using hlt
      have ga : (a.map encTag)[i]? = some (encTag a[i]) := tagE.get hi'
      have gb : (b.map encTag)[i]? = some (encTag b[i]) := tagE.get (by omega)
      simp only [sZ, initT, optI, splice, reduceIte, reduceCtorEq, Nat.reduceEqDiff, Nat.reduceAdd, Nat.reduceSub, Nat.reduceMul, Nat.reduceLeDiff, Nat.reduceLT, Int.reduceLT, Int.reduceLE, Int.reduceToNat, Int.reduceEq, Int.cast_ofNat_Int, h0, h1, h12, h13, ga, gb, len_encTag, wh_encTag, fit_tag, eq_tag]
      refine brC_in (fun hp1 => ?_) (fun hp0 => ?_)
      · have : a ≠ b := fun e => by subst e; simp at hp1
        simp only [sZ, initT, optI, splice, reduceIte, reduceCtorEq, Nat.reduceEqDiff, Nat.reduceAdd, Nat.reduceSub, Nat.reduceMul, Nat.reduceLeDiff, Nat.reduceLT, Int.reduceLT, Int.reduceLE, Int.reduceToNat, Int.reduceEq, Int.cast_ofNat_Int, h0, h1, h12, h13]
        refine OutQ.eq (by repeat (first | exact SExt.refl _ | (refine SExt.old ?_ (by first | (simp only [*]; done) | (simp only [upd_none]; assumption) | (simp only [upd_none, *, not_false_eq_true, and_self]; done)) _))) ?_
        simp [this]
      · simp only [sZ, initT, optI, splice, reduceIte, reduceCtorEq, Nat.reduceEqDiff, Nat.reduceAdd, Nat.reduceSub, Nat.reduceMul, Nat.reduceLeDiff, Nat.reduceLT, Int.reduceLT, Int.reduceLE, Int.reduceToNat, Int.reduceEq, Int.cast_ofNat_Int, h0, h1, h12, h13]
        refine nextQ_normal (a.length - (i + 1)) (by omega) (St.le_refl _) ⟨i + 1, rfl, rfl, h0, h1, h12, ?_, rfl, by omega, fun j hj1 hj2 hj3 => ?_⟩
        · simp only [sZ, initT, optI, splice, reduceIte, reduceCtorEq, Nat.reduceEqDiff, Nat.reduceAdd, Nat.reduceSub, Nat.reduceMul, Nat.reduceLeDiff, Nat.reduceLT, Int.reduceLT, Int.reduceLE, Int.reduceToNat, Int.reduceEq, Int.cast_ofNat_Int]
          rw [wrap64 (by omega) (by omega)]
          rfl
        · by_cases h : j = i
          · subst h; simpa using hp0
          · exact hj j hj1 hj2 (by omega)
    · have hi' : ¬ i < a.length := by simpa using hge
      have : a = b := list_eq_of_get hlen fun j h1 h2 => hj j h1 h2 (by omega)
      simp only [sZ, initT, optI, splice, reduceIte, reduceCtorEq, Nat.reduceEqDiff, Nat.reduceAdd, Nat.reduceSub, Nat.reduceMul, Nat.reduceLeDiff, Nat.reduceLT, Int.reduceLT, Int.reduceLE, Int.reduceToNat, Int.reduceEq, Int.cast_ofNat_Int, h0, h1, h12, h13]
      refine OutQ.eq (by repeat (first | exact SExt.refl _ | (refine SExt.old ?_ (by first | (simp only [*]; done) | (simp only [upd_none]; assumption) | (simp only [upd_none, *, not_false_eq_true, and_self]; done)) _))) ?_
      simp [this]
end Go.Pv
set_option linter.unusedVariables false
set_option linter.unusedSimpArgs false
set_option maxRecDepth 4000
set_option maxHeartbeats 1000000
namespace Go.Pv
open Go

structure Evid where
  kind : Int
  edits : List Int
def encInt (i : Int) : List A := [.int .i64 i]
def intE : Enc Int := ⟨encInt, 1, fun _ => rfl, fun _ => rfl⟩
def encEvid (e : Evid) : List A := [.int .i64 e.kind, .sl 1 (e.edits.map encInt) .no]
def dropsF (l : List Edit) : Nat := l.countP fun e => decide (e.op = 5)
end Go.Pv
set_option linter.unusedVariables false
set_option linter.unusedSimpArgs false
set_option maxRecDepth 4000
set_option maxHeartbeats 1000000
namespace Go.Pv
open Go

theorem SExt.trans {a b c : Nat → Option Blk} (h : SExt a b) (h' : SExt b c) : SExt a c := fun id hid => by
  rw [h' id (by rw [h id hid]; exact hid), h id hid]
theorem OutQ.eqk {s s' : Nat → Option Blk} {k k' : Nat → Tk} {t : Nat → A} {r r1 : A} (h2 : SExt s s') (hk : KExt k k') (h1 : r1 = r) : OutQ s k r r1 ⟨t, s', k'⟩ := ⟨.le (h1 ▸ A.le_refl _), h2, hk⟩
end Go.Pv
