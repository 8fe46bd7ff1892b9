/- The classes of the bytes, and what is a name. -/
import Derived.Test.YtlcacobkiglmbaaCor
import Derived.Lib.Bytealg
import Derived.Laws.Externs
set_option linter.unusedVariables false
set_option linter.unusedSimpArgs false
set_option maxRecDepth 4000
set_option maxHeartbeats 1000000
namespace Go.Pv
open Go

def idxB (s : ByteArray) (c : Int) : Int := Lib.indexByte s.data.toList c.toNat.toUInt8
theorem relv_str {w : World} {E : Env} {s : ByteArray} {v : Value} (h : Rel w E (.str s) v) : v = .string s := by cases h; rfl
theorem relv_int {w : World} {E : Env} {k : IntKind} {n : Int} {v : Value} (h : Rel w E (.int k n) v) : v = .int k n := by cases h; rfl
theorem args2 (vs : Array Value) (h : vs.size = 2) : vs = #[vs.getD 0 Go.undef, vs.getD 1 Go.undef] := by
  obtain ⟨l⟩ := vs
  match l, h with
  | [a, b], _ => rfl
theorem spec_ibs (s : ByteArray) (c : Int) {h : Nat → Option Blk} {k : Nat → Tk} : Spec prg 140 [.str s, .int .u8 c] h k (.int .i64 (idxB s c)) h k := by
  intro w E vs hS hvs hrel
  have h0 := relv_str (hrel 0 _ rfl)
  have h1 := relv_int (hrel 1 _ rfl)
  have hv := args2 vs hvs
  rw [h0, h1] at hv
  subst hv
  have hr := run_callFunc_extern (P := prg) (f := 140) (fn := (prg.funcs[140]?).get!) (by kernel_rfl) (by kernel_rfl) (by kernel_rfl) (by kernel_rfl) (e := Extern.BytealgIndexByte.indexByte) (by kernel_rfl) #[.string s, .int .u8 c] w
  rw [Lib.run_indexByteString] at hr
  unfold CallsV
  rw [hr]
  exact ⟨E, Reach.refl hS, .int ..⟩
theorem spec_sib (s : ByteArray) (c : Int) {h : Nat → Option Blk} {k : Nat → Tk} : Spec prg 116 [.str s, .int .u8 c] h k (.int .i64 (idxB s c)) h k := by
  refine spec_tr prg_mixed tr_stringslite_IndexByte (Nat.le_of_ble_eq_true rfl) rfl ?_
  unfold pc_stringslite_IndexByte rs_stringslite_IndexByte
  repeat' (first | (refine callS_quiet (spec_ibs s c) ?_) | (first | (with_reducible refine newS_in ?_; intro _ hid_; simp only [upd_none] at hid_) | (with_reducible refine newR_in ?_; intro _ hid_ hih_; simp only [upd_none, upd_none', rr_eqs2, and_true] at hid_ hih_) | (with_reducible refine mkmS_in ?_; intro _ hid_; simp only [upd_none] at hid_)) | (with_reducible refine brC_in (fun h_ => ?_) (fun h_ => ?_)) | (with_reducible refine brG_in (fun h_ => ?_) (fun h_ => ?_)) | (with_reducible refine brN_in (fun h_ => ?_) (fun h_ => ?_)) | simp only [sZ, initT, optI, splice, reduceIte, reduceCtorEq, Nat.reduceEqDiff, Nat.reduceAdd, Nat.reduceSub, Nat.reduceMul, Nat.reduceLeDiff, Nat.reduceLT, Int.reduceLT, Int.reduceLE, Int.reduceToNat, Int.reduceEq, Int.cast_ofNat_Int, *])
  refine OutQ.eq (by repeat (first | exact SExt.refl _ | (refine SExt.old ?_ (by first | (simp only [*]; done) | (simp only [upd_none]; assumption) | (simp only [upd_none, *, not_false_eq_true, and_self]; done)) _))) rfl
theorem spec_si (s : ByteArray) (c : Int) {h : Nat → Option Blk} {k : Nat → Tk} : Spec prg 94 [.str s, .int .u8 c] h k (.int .i64 (idxB s c)) h k := by
  refine spec_tr prg_mixed tr_strings_IndexByte (Nat.le_of_ble_eq_true rfl) rfl ?_
  unfold pc_strings_IndexByte rs_strings_IndexByte
  repeat' (first | (refine callS_quiet (spec_sib s c) ?_) | (first | (with_reducible refine newS_in ?_; intro _ hid_; simp only [upd_none] at hid_) | (with_reducible refine newR_in ?_; intro _ hid_ hih_; simp only [upd_none, upd_none', rr_eqs2, and_true] at hid_ hih_) | (with_reducible refine mkmS_in ?_; intro _ hid_; simp only [upd_none] at hid_)) | (with_reducible refine brC_in (fun h_ => ?_) (fun h_ => ?_)) | (with_reducible refine brG_in (fun h_ => ?_) (fun h_ => ?_)) | (with_reducible refine brN_in (fun h_ => ?_) (fun h_ => ?_)) | simp only [sZ, initT, optI, splice, reduceIte, reduceCtorEq, Nat.reduceEqDiff, Nat.reduceAdd, Nat.reduceSub, Nat.reduceMul, Nat.reduceLeDiff, Nat.reduceLT, Int.reduceLT, Int.reduceLE, Int.reduceToNat, Int.reduceEq, Int.cast_ofNat_Int, *])
  refine OutQ.eq (by repeat (first | exact SExt.refl _ | (refine SExt.old ?_ (by first | (simp only [*]; done) | (simp only [upd_none]; assumption) | (simp only [upd_none, *, not_false_eq_true, and_self]; done)) _))) rfl
def cls0 (i : Int) : Int :=
  cond ((decide (97 ≤ i) && decide (i ≤ 122)) || (decide (65 ≤ i) && decide (i ≤ 90))) 3
  (cond (decide (48 ≤ i) && decide (i ≤ 57)) 4
  (cond (decide (0 ≤ idxB ⟨#[32, 9, 10]⟩ i)) 1
  (cond (decide (0 ≤ idxB ⟨#[59, 44, 46, 58, 40, 41, 123, 125, 91, 93, 61, 60, 62, 47, 45]⟩ i)) 6 0)))
def clsA (i : Nat) : A := .int .u8 (cls0 i)
def clsT (j : Nat) : List A := (List.range j).map clsA ++ List.replicate (256 - j) (.int .u8 0)
theorem clsT_len (j : Nat) (h : j ≤ 256) : (clsT j).length = 256 := by simp [clsT]; omega
theorem clsT_succ {j : Nat} (h : j < 256) : splice (clsT j) j [clsA j] = clsT (j + 1) := by
  unfold splice clsT
  have h1 : ((List.range j).map clsA ++ List.replicate (256 - j) (A.int .u8 0)).take j = (List.range j).map clsA := by
    rw [List.take_append_of_le_length (by simp), List.take_of_length_le (by simp)]
  have h2 : ((List.range j).map clsA ++ List.replicate (256 - j) (A.int .u8 0)).drop (j + 1) = List.replicate (256 - (j + 1)) (A.int .u8 0) := by
    rw [List.drop_append, List.drop_of_length_le (by simp), List.nil_append, List.drop_replicate]
    congr 1
    simp
    omega
  simp only [List.length_cons, List.length_nil, Nat.zero_add]
  rw [h1, h2, List.range_succ, List.map_append]
  simp
theorem clsT_none {j : Nat} (h : j < 256) (h0 : cls0 j = 0) : clsT (j + 1) = clsT j := by
  unfold clsT
  rw [List.range_succ, List.map_append]
  have : 256 - j = (256 - (j + 1)) + 1 := by omega
  rw [this, List.replicate_succ]
  simp [clsA, h0]
def clsF (i : Nat) : Int := if i = 34 then 7 else if i = 95 then 5 else if i = 35 then 2 else cls0 i
def clsL : List A := (List.range 256).map fun i => .int .u8 (clsF i)
theorem clsL_len : clsL.length = 256 := by simp [clsL]
theorem clsL_get {i : Nat} (h : i < 256) : clsL[i]? = some (.int .u8 (clsF i)) := by simp [clsL, h]
theorem clsT_fin : splice (splice (splice (clsT 256) 35 [.int .u8 2]) 95 [.int .u8 5]) 34 [.int .u8 7] = clsL := by
  have hl : ∀ (cs : List A) (i : Nat) (x : A), cs.length = 256 → i < 256 → (splice cs i [x]).length = 256 ∧ ∀ j, (splice cs i [x])[j]? = if j = i then some x else cs[j]? := by
    intro cs i x h hi
    have h2 := splice_length cs [x] i (by simp; omega)
    refine ⟨by omega, fun j => ?_⟩
    have := splice_get cs [x] i (by simp; omega) j
    rw [this]
    by_cases hj : j = i
    · subst hj; simp
    · simp [hj]
      intro h1 h2
      omega
  obtain ⟨a1, a2⟩ := hl (clsT 256) 35 (.int .u8 2) (clsT_len 256 (by omega)) (by omega)
  obtain ⟨b1, b2⟩ := hl _ 95 (.int .u8 5) a1 (by omega)
  obtain ⟨c1, c2⟩ := hl _ 34 (.int .u8 7) b1 (by omega)
  refine List.ext_getElem? fun j => ?_
  rw [c2, b2, a2]
  by_cases hj : j < 256
  · rw [clsL_get hj]
    have : (clsT 256)[j]? = some (.int .u8 (cls0 j)) := by simp [clsT, clsA, hj]
    rw [this]
    unfold clsF
    split <;> (try rfl)
    split <;> (try rfl)
    split <;> rfl
  · rw [if_neg (by omega), if_neg (by omega), if_neg (by omega), List.getElem?_eq_none (by rw [clsT_len _ (by omega)]; omega), List.getElem?_eq_none (by rw [clsL_len]; omega)]
theorem wrapu8 {n : Int} (h1 : 0 ≤ n) (h2 : n < 256) : IntKind.u8.wrap n = n := by
  have : IntKind.u8.wrap n = n % 256 := rfl
  rw [this]
  omega
theorem clsT_zero : zc256 = clsT 0 := rfl
theorem clsT_st {j : Nat} (h : j < 256) (v : Int) (hv : cls0 j = v) : splice (clsT j) j [.int .u8 v] = clsT (j + 1) := by
  subst hv
  exact clsT_succ h
theorem clsT_all : splice (clsT 0) 0 clsL = clsL := by
  unfold splice
  rw [List.take_zero, List.drop_of_length_le (by rw [clsL_len, clsT_len 0 (by omega)]; exact Nat.le_refl _), List.nil_append, List.append_nil]
theorem clsL_st : clsL.map A.strip = clsL := by
  refine (List.map_congr_left fun x hx => ?_).trans (List.map_id _)
  unfold clsL at hx
  obtain ⟨i, _, rfl⟩ := List.mem_map.1 hx
  rfl
theorem clsL_tk : clsL.take 256 = clsL := List.take_of_length_le (by rw [clsL_len]; exact Nat.le_refl _)
theorem spec_classes {h : Nat → Option Blk} {k : Nat → Tk} : Spec prg 54 [] h k (.agg clsL) h k := by
  refine spec_tr prg_mixed tr_lexer_classes (Nat.le_of_ble_eq_true rfl) rfl ?_
  unfold pc_lexer_classes rs_lexer_classes
  rw [clsT_zero]
  simp only [sZ, initT, optI, reduceIte, reduceCtorEq, Nat.reduceEqDiff, Nat.reduceAdd, Nat.reduceSub, Nat.reduceMul, Nat.reduceLeDiff, Nat.reduceLT, Int.reduceLT, Int.reduceLE, Int.reduceToNat, Int.reduceEq, Int.cast_ofNat_Int]
  (with_reducible refine newS_in ?_); intro b0 f0; simp only [upd_none] at f0
  simp only [sZ, initT, optI, reduceIte, reduceCtorEq, Nat.reduceEqDiff, Nat.reduceAdd, Nat.reduceSub, Nat.reduceMul, Nat.reduceLeDiff, Nat.reduceLT, Int.reduceLT, Int.reduceLE, Int.reduceToNat, Int.reduceEq, Int.cast_ofNat_Int, f0]
  (with_reducible refine newS_in ?_); intro b1 f1; simp only [upd_none] at f1
  simp only [sZ, initT, optI, reduceIte, reduceCtorEq, Nat.reduceEqDiff, Nat.reduceAdd, Nat.reduceSub, Nat.reduceMul, Nat.reduceLeDiff, Nat.reduceLT, Int.reduceLT, Int.reduceLE, Int.reduceToNat, Int.reduceEq, Int.cast_ofNat_Int, f0, f1.1]
  have hb1 := f1.2
  have hne := f1.1
  clear f1
  refine loop_L (α := Unit) 256 (fun j _ => [(0, .ptr b0 0), (1, .ptr b1 0), (4, .int .i64 j)]) (fun j _ => upd (upd h b0 (some (.cells (clsT 0)))) b1 (some (.cells (clsT j)))) (fun _ _ => k) (fun _ _ => True) () (SExt.refl _) rfl (by (try simp only [TabLe_cons, TabLe_nil, tab_cons, tab_nil, upd_apply, Nat.reduceEqDiff, reduceIte, and_true]); repeat' (first | exact trivial | exact A.le_refl _ | exact le_strip_no _ _ _ | exact A.le_no _ _ _ | exact A.le_empty _ _ _ | refine And.intro ?_ ?_)) trivial ?_
  rintro j ⟨⟩ hj -
  try dsimp only
  simp only [sZ, initT, optI, reduceIte, reduceCtorEq, Nat.reduceEqDiff, Nat.reduceAdd, Nat.reduceSub, Nat.reduceMul, Nat.reduceLeDiff, Nat.reduceLT, Int.reduceLT, Int.reduceLE, Int.reduceToNat, Int.reduceEq, Int.cast_ofNat_Int, f0, hne, hne]
  refine brC_in (fun hlt => ?_) (fun hge => ?_)
  · have hj' : j < 256 := by have := of_decide_eq_true hlt; omega
    have hw := wrap_succ hj' (by omega)
    have hu : IntKind.u8.wrap (j : Int) = j := wrapu8 (by omega) (by omega)
    simp only [sZ, initT, optI, reduceIte, reduceCtorEq, Nat.reduceEqDiff, Nat.reduceAdd, Nat.reduceSub, Nat.reduceMul, Nat.reduceLeDiff, Nat.reduceLT, Int.reduceLT, Int.reduceLE, Int.reduceToNat, Int.reduceEq, Int.cast_ofNat_Int, f0, hne, hu]
    have hc : (decide ((0 : Int) ≤ j) = true) = True := by simp
    have hf : (j + 1 ≤ (clsT j).length) = True := by rw [clsT_len j hj]; simp; omega
    have hpos : (0 : Int) ≤ j := by omega
    have hlt' : (j : Int) < 256 := by omega
    clear hlt
    repeat' (first | (refine callS_quiet (spec_si _ _) ?_) | (first | (with_reducible refine newS_in ?_; intro _ hid_; simp only [upd_none] at hid_) | (with_reducible refine newR_in ?_; intro _ hid_ hih_; simp only [upd_none, upd_none', rr_eqs2, and_true] at hid_ hih_) | (with_reducible refine mkmS_in ?_; intro _ hid_; simp only [upd_none] at hid_)) | (with_reducible refine brC_in (fun h_ => ?_) (fun h_ => ?_)) | (with_reducible refine brG_in (fun h_ => ?_) (fun h_ => ?_)) | (with_reducible refine brN_in (fun h_ => ?_) (fun h_ => ?_)) | simp only [sZ, initT, optI, reduceIte, reduceCtorEq, Nat.reduceEqDiff, Nat.reduceAdd, Nat.reduceSub, Nat.reduceMul, Nat.reduceLeDiff, Nat.reduceLT, Int.reduceLT, Int.reduceLE, Int.reduceToNat, Int.reduceEq, Int.cast_ofNat_Int, *, f0, hne, hu, hw, hf, Nat.mul_one, Int.toNat_natCast, -f0, -hj, -hj'])
    all_goals refine next_L hj' () ?_ rfl (by (try simp only [TabLe_cons, TabLe_nil, tab_cons, tab_nil, upd_apply, Nat.reduceEqDiff, reduceIte, and_true]); repeat' (first | exact trivial | exact A.le_refl _ | exact le_strip_no _ _ _ | exact A.le_no _ _ _ | exact A.le_empty _ _ _ | refine And.intro ?_ ?_)) trivial
    all_goals first | rw [clsT_st hj'] | rw [clsT_none hj']
    all_goals first | exact SExt.refl _ | simp only [cls0, h_, *, Bool.and_true, Bool.true_and, Bool.and_false, Bool.false_and, Bool.or_true, Bool.true_or, Bool.or_false, Bool.false_or, cond_true, cond_false]
  · have hje : j = 256 := by have := of_decide_eq_false hge; omega
    subst hje
    have l0 : (clsT 256).length = 256 := clsT_len 256 (by omega)
    have l1 : (splice (clsT 256) 35 [.int .u8 2]).length = 256 := by rw [splice_length _ _ _ (by rw [l0]; decide), l0]
    have l2 : (splice (splice (clsT 256) 35 [.int .u8 2]) 95 [.int .u8 5]).length = 256 := by rw [splice_length _ _ _ (by rw [l1]; decide), l1]
    have hz : (clsT 0).length = 256 := clsT_len 0 (by omega)
    repeat' (first | (first | (with_reducible refine newS_in ?_; intro _ hid_; simp only [upd_none] at hid_) | (with_reducible refine newR_in ?_; intro _ hid_ hih_; simp only [upd_none, upd_none', rr_eqs2, and_true] at hid_ hih_) | (with_reducible refine mkmS_in ?_; intro _ hid_; simp only [upd_none] at hid_)) | (with_reducible refine brC_in (fun h_ => ?_) (fun h_ => ?_)) | (with_reducible refine brG_in (fun h_ => ?_) (fun h_ => ?_)) | (with_reducible refine brN_in (fun h_ => ?_) (fun h_ => ?_)) | simp only [sZ, initT, optI, reduceIte, reduceCtorEq, Nat.reduceEqDiff, Nat.reduceAdd, Nat.reduceSub, Nat.reduceMul, Nat.reduceLeDiff, Nat.reduceLT, Int.reduceLT, Int.reduceLE, Int.reduceToNat, Int.reduceEq, Int.cast_ofNat_Int, *, f0, hb1, hne, l0, l1, l2, hz, clsT_fin, clsL_len, clsL_tk, clsL_st, clsT_all])
    exact OutQ.eq (SExt.old (SExt.old (SExt.old (SExt.refl _) f0 _) hb1 _) f0 _) rfl
/-- Whether a byte may stand at a place of a name. -/
def okN (i : Nat) (c : Int) : Bool := decide (c = 3) || (!decide (i = 0) && (decide (c = 4) || decide (c = 5)))
def okB (s : ByteArray) (i : Nat) : Bool := okN i (clsF (bt s i).toNat)
def nameF (s : ByteArray) : Bool := (List.range s.size).all (okB s) && (!decide (s = ⟨#[]⟩) && decide (s.size ≤ 24))
theorem range_take_all (p : Nat → Bool) (n : Nat) {j : Nat} (h : j < n) : (List.range (j + 1)).all p = ((List.range j).all p && p j) := by
  rw [List.range_succ, List.all_append]
  simp
theorem nameF_no {s : ByteArray} {j : Nat} (h : j < s.size) (hn : (List.range (j + 1)).all (okB s) = false) : nameF s = false := by
  have : (List.range s.size).all (okB s) = false := by
    rw [List.all_eq_false] at hn ⊢
    obtain ⟨x, hx, hp⟩ := hn
    exact ⟨x, List.mem_range.2 (by have := List.mem_range.1 hx; omega), hp⟩
  unfold nameF
  rw [this, Bool.false_and]
theorem bt_lt (s : ByteArray) (i : Nat) : (bt s i).toNat < 256 := (bt s i).toNat_lt
theorem spec_Name (s : ByteArray) (hs : s.size < 4611686018427387904) {h : Nat → Option Blk} {k : Nat → Tk} : Spec prg 22 [.str s] h k (.bool (nameF s)) h k := by
  refine spec_tr prg_mixed tr_lexer_Name (Nat.le_of_ble_eq_true rfl) rfl ?_
  unfold pc_lexer_Name rs_lexer_Name
  rw [clsT_zero]
  simp only [sZ, initT, optI, reduceIte, reduceCtorEq, Nat.reduceEqDiff, Nat.reduceAdd, Nat.reduceSub, Nat.reduceMul, Nat.reduceLeDiff, Nat.reduceLT, Int.reduceLT, Int.reduceLE, Int.reduceToNat, Int.reduceEq, Int.cast_ofNat_Int]
  refine callS_quiet spec_classes ?_
  have hz : (clsT 0).length = 256 := clsT_len 0 (by omega)
  simp only [sZ, initT, optI, reduceIte, reduceCtorEq, Nat.reduceEqDiff, Nat.reduceAdd, Nat.reduceSub, Nat.reduceMul, Nat.reduceLeDiff, Nat.reduceLT, Int.reduceLT, Int.reduceLE, Int.reduceToNat, Int.reduceEq, Int.cast_ofNat_Int]
  (with_reducible refine newS_in ?_); intro b0 f0; simp only [upd_none] at f0
  simp only [sZ, initT, optI, reduceIte, reduceCtorEq, Nat.reduceEqDiff, Nat.reduceAdd, Nat.reduceSub, Nat.reduceMul, Nat.reduceLeDiff, Nat.reduceLT, Int.reduceLT, Int.reduceLE, Int.reduceToNat, Int.reduceEq, Int.cast_ofNat_Int, f0, hz, clsL_len, clsL_st, clsT_all]
  refine loop_L (α := Unit) s.size (fun j _ => [(0, .str s), (2, .bool false), (3, .ptr b0 0), (8, .int .i64 s.size), (9, .int .i64 j)]) (fun j _ => upd h b0 (some (.cells clsL))) (fun _ _ => k) (fun j _ => (List.range j).all (okB s) = true) () (SExt.refl _) rfl (by (try simp only [TabLe_cons, TabLe_nil, tab_cons, tab_nil, upd_apply, Nat.reduceEqDiff, reduceIte, and_true]); repeat' (first | exact trivial | exact A.le_refl _ | exact le_strip_no _ _ _ | exact A.le_no _ _ _ | exact A.le_empty _ _ _ | refine And.intro ?_ ?_)) rfl ?_
  rintro j ⟨⟩ hj hall
  try dsimp only
  simp only [sZ, initT, optI, reduceIte, reduceCtorEq, Nat.reduceEqDiff, Nat.reduceAdd, Nat.reduceSub, Nat.reduceMul, Nat.reduceLeDiff, Nat.reduceLT, Int.reduceLT, Int.reduceLE, Int.reduceToNat, Int.reduceEq, Int.cast_ofNat_Int, f0]
  refine brC_in (fun hlt => ?_) (fun hge => ?_)
  · have hj' : j < s.size := by have := of_decide_eq_true hlt; omega
    clear hlt
    have hw := wrap_succ hj' (by omega)
    have g1 : (0 : Int) ≤ j := by omega
    have g2 : (j : Int) < s.size := by omega
    have g3 : (((bt s j).toNat : Int) < 256) = True := by have := bt_lt s j; simp; omega
    have g4 : (0 : Int) ≤ (bt s j).toNat := by omega
    have hg : clsL[(bt s j).toNat]? = some (.int .u8 (clsF (bt s j).toNat)) := clsL_get (bt_lt s j)
    have hn := range_take_all (okB s) s.size hj'
    have ho : okB s j = okN j (clsF (bt s j).toNat) := rfl
    have h0 : decide ((j : Int) = 0) = decide (j = 0) := by simp
    rw [hall, Bool.true_and, ho] at hn
    unfold okN at hn
    generalize clsF (bt s j).toNat = c at hn hg
    repeat' (first | (first | (with_reducible refine newS_in ?_; intro _ hid_; simp only [upd_none] at hid_) | (with_reducible refine newR_in ?_; intro _ hid_ hih_; simp only [upd_none, upd_none', rr_eqs2, and_true] at hid_ hih_) | (with_reducible refine mkmS_in ?_; intro _ hid_; simp only [upd_none] at hid_)) | (with_reducible refine brC_in (fun h_ => ?_) (fun h_ => ?_)) | (with_reducible refine brG_in (fun h_ => ?_) (fun h_ => ?_)) | (with_reducible refine brN_in (fun h_ => ?_) (fun h_ => ?_)) | simp only [sZ, initT, optI, reduceIte, reduceCtorEq, Nat.reduceEqDiff, Nat.reduceAdd, Nat.reduceSub, Nat.reduceMul, Nat.reduceLeDiff, Nat.reduceLT, Int.reduceLT, Int.reduceLE, Int.reduceToNat, Int.reduceEq, Int.cast_ofNat_Int, *, f0, hg, hw, Nat.mul_one, Int.toNat_natCast, h0, -hn])
    all_goals first
      | (refine next_L hj' () (SExt.refl _) rfl (by (try simp only [TabLe_cons, TabLe_nil, tab_cons, tab_nil, upd_apply, Nat.reduceEqDiff, reduceIte, and_true]); repeat' (first | exact trivial | exact A.le_refl _ | exact le_strip_no _ _ _ | exact A.le_no _ _ _ | exact A.le_empty _ _ _ | refine And.intro ?_ ?_)) ?_; rw [hn]; clear hn hall hg; simp_all; done)
      | (refine OutQ.eq (by repeat (first | exact SExt.refl _ | (refine SExt.old ?_ (by first | (simp only [*]; done) | (simp only [upd_none]; assumption) | (simp only [upd_none, *, not_false_eq_true, and_self]; done)) _))) ?_; rw [nameF_no hj' (by rw [hn]; clear hn hall hg; simp_all)])
  · have hje : j = s.size := by have := of_decide_eq_false hge; omega
    subst hje
    clear hge
    have hd : decide ((s.size : Int) ≤ 24) = decide (s.size ≤ 24) := by simp; omega
    have hn : nameF s = (!decide (s = ⟨#[]⟩) && decide (s.size ≤ 24)) := by unfold nameF; rw [hall, Bool.true_and]
    repeat' (first | (first | (with_reducible refine newS_in ?_; intro _ hid_; simp only [upd_none] at hid_) | (with_reducible refine newR_in ?_; intro _ hid_ hih_; simp only [upd_none, upd_none', rr_eqs2, and_true] at hid_ hih_) | (with_reducible refine mkmS_in ?_; intro _ hid_; simp only [upd_none] at hid_)) | (with_reducible refine brC_in (fun h_ => ?_) (fun h_ => ?_)) | (with_reducible refine brG_in (fun h_ => ?_) (fun h_ => ?_)) | (with_reducible refine brN_in (fun h_ => ?_) (fun h_ => ?_)) | simp only [sZ, initT, optI, reduceIte, reduceCtorEq, Nat.reduceEqDiff, Nat.reduceAdd, Nat.reduceSub, Nat.reduceMul, Nat.reduceLeDiff, Nat.reduceLT, Int.reduceLT, Int.reduceLE, Int.reduceToNat, Int.reduceEq, Int.cast_ofNat_Int, *, f0, hd, -hn])
    all_goals
      refine OutQ.eq (by repeat (first | exact SExt.refl _ | (refine SExt.old ?_ (by first | (simp only [*]; done) | (simp only [upd_none]; assumption) | (simp only [upd_none, *, not_false_eq_true, and_self]; done)) _))) ?_
      rw [hn]
      clear hn hall
      simp_all
end Go.Pv
