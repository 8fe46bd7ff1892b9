/- The head of the law. -/
import Derived.Test.YtgmdhegbkbeihaaGreatZEvR
set_option linter.unusedVariables false
set_option linter.unusedSimpArgs false
set_option maxRecDepth 4000
set_option maxHeartbeats 4000000
namespace Go.Pv
open Go

def hNode (i : ByteArray) (n : List Tag) : Obj := ⟨i, 1, 0, 0, [], n⟩
def hX : List Tag := [⟨⟨#[110, 97, 109, 101]⟩, ⟨#[120]⟩⟩]
def hMap : List Obj := [hNode ⟨#[97]⟩ hX, hNode ⟨#[98]⟩ hX, hNode ⟨#[99]⟩ hX, hNode ⟨#[100]⟩ [], hNode ⟨#[101]⟩ []]
def hE (op : Int) (i : ByteArray) : Edit := ⟨op, i, ⟨#[]⟩, ⟨#[]⟩, 0, 0, ⟨#[]⟩, ⟨#[]⟩, [], zeroObj⟩
def hB (i : ByteArray) : Edit := ⟨3, i, ⟨#[]⟩, ⟨#[]⟩, 0, 0, ⟨#[110, 97, 109, 101]⟩, ⟨#[]⟩, [], zeroObj⟩
def hDrops : List Edit := hMap.map fun o => hE 5 o.id
def hMoves : List Edit := hMap.map fun o => hE 2 o.id
def hBlanks : List Edit := [hB ⟨#[99]⟩, hB ⟨#[97]⟩, hB ⟨#[98]⟩]
theorem le_slW {esz : Nat} {xs ys : List (List A)} {t : Tok} (hl : xs.length = ys.length) (h : ∀ (i : Nat) (c d : List A), xs[i]? = some c → ys[i]? = some d → A.lel c d) : A.le (.sl esz xs t) (.sl esz ys .no) := ⟨fun w E v hr => by
  cases hr with
  | sl _ _ _ ad c f h1 h2 h3 h4 h5 h6 h7 =>
    rw [hl]
    refine .sl esz ys .no ad c f (by omega) h2 (by simp) (by simp) ?_ (fun i j hi hj => h6 i j (by omega) hj) ?_
    · intro i d hd
      have hi : i < xs.length := by rw [hl]; exact (List.getElem?_eq_some_iff.1 hd).1
      have := (h i xs[i] d (List.getElem?_eq_getElem hi) hd).get.1
      rw [this]
      exact h5 i xs[i] (List.getElem?_eq_getElem hi)
    · intro i d j y hd hy
      have hi : i < xs.length := by rw [hl]; exact (List.getElem?_eq_some_iff.1 hd).1
      obtain ⟨x, hx, hxy⟩ := (h i xs[i] d (List.getElem?_eq_getElem hi) hd).get.2 j y hy
      exact hxy.rel _ _ _ (h7 i xs[i] j x (List.getElem?_eq_getElem hi) hx), by simp⟩
def rawE (op : Int) (i : ByteArray) : List A := [.int .i64 op, .str i, .str ⟨#[]⟩, .str ⟨#[]⟩, .int .i64 0, .int .i64 0, .str ⟨#[]⟩, .str ⟨#[]⟩, .sl 1 [] .nil, .str ⟨#[]⟩, .int .i64 0, .int .i64 0, .int .i64 0, .sl 1 [] .nil, .sl 2 [] .nil]
def rawL (op : Int) (l : List Obj) : List (List A) := l.map fun o => rawE op o.id
theorem rawL_take (op : Int) (l : List Obj) {j : Nat} (h : j < l.length) : rawL op (l.take (j + 1)) = rawL op (l.take j) ++ [rawE op l[j].id] := by
  unfold rawL
  rw [List.take_succ_eq_append_getElem h, List.map_append]
  rfl
theorem raw_le (op : Int) (i : ByteArray) : A.lel (rawE op i) (encEdit (hE op i)) :=
  .cons (A.le_refl _) (.cons (A.le_refl _) (.cons (A.le_refl _) (.cons (A.le_refl _) (.cons (A.le_refl _) (.cons (A.le_refl _) (.cons (A.le_refl _) (.cons (A.le_refl _) (.cons (A.le_empty _ _ _) (.cons (A.le_refl _) (.cons (A.le_refl _) (.cons (A.le_refl _) (.cons (A.le_refl _) (.cons (A.le_empty _ _ _) (.cons (A.le_empty _ _ _) .nil))))))))))))))
theorem rawL_get {op : Int} {l : List Obj} {i : Nat} {c d : List A} (hc : (rawL op l)[i]? = some c) (hd : ((l.map fun o => hE op o.id).map encEdit)[i]? = some d) : A.lel c d := by
  unfold rawL at hc
  rw [List.getElem?_map, Option.map_eq_some_iff] at hc
  rw [List.getElem?_map, List.getElem?_map, Option.map_map, Option.map_eq_some_iff] at hd
  obtain ⟨a, ha, rfl⟩ := hc
  obtain ⟨b, hb, rfl⟩ := hd
  rw [ha] at hb
  cases hb
  exact raw_le op a.id
theorem drops_le (t : Tok) : A.le (.sl 15 (rawL 5 hMap) t) (.sl 15 (hDrops.map encEdit) .no) := le_slW rfl fun i c d hc hd => rawL_get hc hd
theorem both_le (t : Tok) : A.le (.sl 15 (rawL 5 hMap ++ rawL 2 hMap) t) (.sl 15 ((hDrops ++ hMoves).map encEdit) .no) := le_slW (by simp [rawL, hDrops, hMoves]) fun i c d hc hd => by
  rw [List.map_append] at hd
  by_cases h : i < (rawL 5 hMap).length
  · rw [List.getElem?_append_left h] at hc
    rw [List.getElem?_append_left (by simpa [rawL, hDrops] using h)] at hd
    exact rawL_get hc hd
  · have e : (hDrops.map encEdit).length = (rawL 5 hMap).length := by simp [rawL, hDrops]
    rw [List.getElem?_append_right (by omega)] at hc
    rw [List.getElem?_append_right (by omega), e] at hd
    exact rawL_get hc hd
theorem strip_le {esz : Nat} {xs : List (List A)} {t : Tok} {y : A} (h : ∀ t, A.le (.sl esz xs t) y) : A.le (A.sl esz xs t).strip y := by
  cases t <;> exact h _
def hL : List (List A) := hMap.map encObj
theorem hL_eq : hL = [[A.str ⟨#[97]⟩, A.int IntKind.i64 1, A.int IntKind.i64 0, A.int IntKind.i64 0, A.sl 1 [] Tok.no, A.sl 2 (List.map encTag hX) Tok.no],
    [A.str ⟨#[98]⟩, A.int IntKind.i64 1, A.int IntKind.i64 0, A.int IntKind.i64 0, A.sl 1 [] Tok.no, A.sl 2 (List.map encTag hX) Tok.no],
    [A.str ⟨#[99]⟩, A.int IntKind.i64 1, A.int IntKind.i64 0, A.int IntKind.i64 0, A.sl 1 [] Tok.no, A.sl 2 (List.map encTag hX) Tok.no],
    [A.str ⟨#[100]⟩, A.int IntKind.i64 1, A.int IntKind.i64 0, A.int IntKind.i64 0, A.sl 1 [] Tok.no, A.sl 2 [] Tok.no],
    [A.str ⟨#[101]⟩, A.int IntKind.i64 1, A.int IntKind.i64 0, A.int IntKind.i64 0, A.sl 1 [] Tok.no, A.sl 2 [] Tok.no]] := rfl
theorem h_drops : findF hMap hDrops = ⟨1, [0, 1, 2, 3, 4]⟩ := by kernel_rfl
theorem h_both : findF hMap (hDrops ++ hMoves) = ⟨0, []⟩ := by kernel_rfl
theorem h_blanks : findF hMap hBlanks = ⟨2, [0, 1, 2]⟩ := by kernel_rfl
theorem spec_head31 {s : Nat → Option Blk} {k : Nat → Tk} : Spec prg 10 [] s k (.bool true) s k := by
  refine spec_tr prg_mixed tr_plaw31_head (Nat.le_of_ble_eq_true rfl) rfl ?_
  unfold pc_plaw31_head rs_plaw31_head
  have hX' : ∀ i s k, Spec prg 27 [.str i, .str ⟨#[120]⟩] s k (.agg (encObj (hNode i hX))) s k := fun i s k => by
    have := @spec_node31 i ⟨#[120]⟩ s k
    rwa [if_neg (by decide)] at this
  have hN' : ∀ i s k, Spec prg 27 [.str i, .str ⟨#[]⟩] s k (.agg (encObj (hNode i []))) s k := fun i s k => by
    have := @spec_node31 i ⟨#[]⟩ s k
    rwa [if_pos rfl] at this
  have hO : ∀ (i : ByteArray) (T : List Tag), i.size ≤ 1 → T.length ≤ 1 → (∀ t ∈ T, TagFit t) → ObjFit (hNode i T) := fun i T h1 h2 h3 => ⟨by show i.size < _; omega, by show (0 : Nat) < _; omega, fun r hr => (by cases hr), by show T.length < _; omega, h3⟩
  have hT : ∀ t ∈ hX, TagFit t := fun t ht => by
    simp only [hX, List.mem_cons, List.not_mem_nil, or_false] at ht
    subst ht
    exact ⟨by decide, by decide⟩
  have h0 : ∀ t ∈ ([] : List Tag), TagFit t := fun t ht => by cases ht
  have hfit : MapFit hMap := ⟨by decide, fun o ho => by
    simp only [hMap, List.mem_cons, List.not_mem_nil, or_false] at ho
    rcases ho with rfl | rfl | rfl | rfl | rfl
    · exact hO _ _ (by decide) (by decide) hT
    · exact hO _ _ (by decide) (by decide) hT
    · exact hO _ _ (by decide) (by decide) hT
    · exact hO _ _ (by decide) (by decide) h0
    · exact hO _ _ (by decide) (by decide) h0⟩
  have hEf : ∀ op (i : ByteArray), i.size ≤ 1 → EditFit (hE op i) := fun op i h => ⟨by show i.size < _; omega, by show (0 : Nat) < _; omega, by show (0 : Nat) < _; omega, by show (0 : Nat) < _; omega, by show (0 : Nat) < _; omega, by show (0 : Nat) < _; omega, fun r hr => (by cases hr), ⟨by show (0 : Nat) < _; omega, by show (0 : Nat) < _; omega, fun r hr => (by cases hr), by show (0 : Nat) < _; omega, fun r hr => (by cases hr)⟩⟩
  have hid : ∀ o ∈ hMap, o.id.size ≤ 1 := fun o ho => by
    simp only [hMap, List.mem_cons, List.not_mem_nil, or_false] at ho
    rcases ho with rfl | rfl | rfl | rfl | rfl <;> decide
  have F1 := fun s k => @spec_Find hMap hDrops hfit (by decide) (fun e he => by
    obtain ⟨o, ho, rfl⟩ := List.mem_map.1 he
    exact hEf 5 o.id (hid o ho)) s k
  have F2 := fun s k => @spec_Find hMap (hDrops ++ hMoves) hfit (by decide) (fun e he => by
    rcases List.mem_append.1 he with he | he
    · obtain ⟨o, ho, rfl⟩ := List.mem_map.1 he
      exact hEf 5 o.id (hid o ho)
    · obtain ⟨o, ho, rfl⟩ := List.mem_map.1 he
      exact hEf 2 o.id (hid o ho)) s k
  have hBf : ∀ (i : ByteArray), i.size ≤ 1 → EditFit (hB i) := fun i h => ⟨by show i.size < _; omega, by show (0 : Nat) < _; omega, by show (0 : Nat) < _; omega, by show (4 : Nat) < _; omega, by show (0 : Nat) < _; omega, by show (0 : Nat) < _; omega, fun r hr => (by cases hr), ⟨by show (0 : Nat) < _; omega, by show (0 : Nat) < _; omega, fun r hr => (by cases hr), by show (0 : Nat) < _; omega, fun r hr => (by cases hr)⟩⟩
  have F3 := fun s k => @spec_Find hMap hBlanks hfit (by decide) (fun e he => by
    simp only [hBlanks, List.mem_cons, List.not_mem_nil, or_false] at he
    rcases he with rfl | rfl | rfl <;> exact hBf _ (by decide)) s k
  rw [h_drops] at F1
  rw [h_both] at F2
  rw [h_blanks] at F3
  clear hfit hEf hid hBf hO hT h0
  simp only [sZ, initT, optI, splice, reduceIte, reduceCtorEq, Nat.reduceEqDiff, Nat.reduceAdd, Nat.reduceSub, Nat.reduceMul, Nat.reduceLeDiff, Nat.reduceLT, Int.reduceLT, Int.reduceLE, Int.reduceToNat, Int.reduceEq, Int.cast_ofNat_Int]
  refine callS_quiet (hX' _ _ _) ?_
  simp only [sZ, initT, optI, splice, reduceIte, reduceCtorEq, Nat.reduceEqDiff, Nat.reduceAdd, Nat.reduceSub, Nat.reduceMul, Nat.reduceLeDiff, Nat.reduceLT, Int.reduceLT, Int.reduceLE, Int.reduceToNat, Int.reduceEq, Int.cast_ofNat_Int]
  refine callS_quiet (hX' _ _ _) ?_
  simp only [sZ, initT, optI, splice, reduceIte, reduceCtorEq, Nat.reduceEqDiff, Nat.reduceAdd, Nat.reduceSub, Nat.reduceMul, Nat.reduceLeDiff, Nat.reduceLT, Int.reduceLT, Int.reduceLE, Int.reduceToNat, Int.reduceEq, Int.cast_ofNat_Int]
  refine callS_quiet (hX' _ _ _) ?_
  simp only [sZ, initT, optI, splice, reduceIte, reduceCtorEq, Nat.reduceEqDiff, Nat.reduceAdd, Nat.reduceSub, Nat.reduceMul, Nat.reduceLeDiff, Nat.reduceLT, Int.reduceLT, Int.reduceLE, Int.reduceToNat, Int.reduceEq, Int.cast_ofNat_Int]
  refine callS_quiet (hN' _ _ _) ?_
  simp only [sZ, initT, optI, splice, reduceIte, reduceCtorEq, Nat.reduceEqDiff, Nat.reduceAdd, Nat.reduceSub, Nat.reduceMul, Nat.reduceLeDiff, Nat.reduceLT, Int.reduceLT, Int.reduceLE, Int.reduceToNat, Int.reduceEq, Int.cast_ofNat_Int]
  refine callS_quiet (hN' _ _ _) ?_
  simp only [sZ, initT, optI, splice, reduceIte, reduceCtorEq, Nat.reduceEqDiff, Nat.reduceAdd, Nat.reduceSub, Nat.reduceMul, Nat.reduceLeDiff, Nat.reduceLT, Int.reduceLT, Int.reduceLE, Int.reduceToNat, Int.reduceEq, Int.cast_ofNat_Int, encObj, hNode]
  rw [← hL_eq]
  (with_reducible refine newS_in ?_); intro b1 f1; simp only [upd_none] at f1
  have hlen : hL.length = 5 := rfl
  simp only [sZ, initT, optI, splice, reduceIte, reduceCtorEq, Nat.reduceEqDiff, Nat.reduceAdd, Nat.reduceSub, Nat.reduceMul, Nat.reduceLeDiff, Nat.reduceLT, Int.reduceLT, Int.reduceLE, Int.reduceToNat, Int.reduceEq, Int.cast_ofNat_Int, f1]
  refine loop_L (α := Tok × Tok × (Nat → Tk)) 5 (fun j p => [(1, .ptr b1 0), (2, .sl 15 (rawL 5 (hMap.take j)) p.1), (3, .sl 15 (rawL 2 (hMap.take j)) p.2.1), (4, .int .i64 j)])
    (fun _ _ => upd s b1 (some (.cells [.sl 6 hL .full]))) (fun _ p => p.2.2) (fun _ p => KExt k p.2.2 ∧ TokA k p.2.2 44 p.1 ∧ TokA k p.2.2 44 p.2.1 ∧ Apart p.1 p.2.1) (.nil, .nil, k) (SExt.refl _) rfl (by (try simp only [TabLe_cons, TabLe_nil, tab_cons, tab_nil, upd_apply, Nat.reduceEqDiff, reduceIte, and_true]); repeat' (first | exact trivial | exact A.le_refl _ | exact le_strip_no _ _ _ | exact A.le_no _ _ _ | exact A.le_empty _ _ _ | refine And.intro ?_ ?_)) ⟨KExt.refl _, .inl rfl, .inl rfl, fun _ _ _ _ h => by cases h⟩ ?_
  rintro j ⟨tok, tok', k'⟩ hj ⟨hk, htok, htok', hap⟩
  dsimp only at hk htok htok' hap ⊢
  simp only [sZ, initT, optI, splice, reduceIte, reduceCtorEq, Nat.reduceEqDiff, Nat.reduceAdd, Nat.reduceSub, Nat.reduceMul, Nat.reduceLeDiff, Nat.reduceLT, Int.reduceLT, Int.reduceLE, Int.reduceToNat, Int.reduceEq, Int.cast_ofNat_Int, f1, hlen]
  refine brC_in (fun hlt => ?_) (fun hge => ?_)
  · have hj' : j < hMap.length := by have := of_decide_eq_true hlt; show j < 5; omega
    clear hlt
    have hw : IntKind.i64.wrap ((j : Int) + 1) = ((j + 1 : Nat) : Int) := wrap64 (by omega) (by omega)
    have hg : hL[j]? = some (encObj hMap[j]) := objE.get hj'
    have p1 : (0 : Int) ≤ j := by omega
    have p2 : (j : Int) < 5 := by have : hMap.length = 5 := rfl; omega
    have e5 := rawL_take 5 hMap hj'
    have e2 := rawL_take 2 hMap hj'
    simp only [sZ, initT, optI, splice, reduceIte, reduceCtorEq, Nat.reduceEqDiff, Nat.reduceAdd, Nat.reduceSub, Nat.reduceMul, Nat.reduceLeDiff, Nat.reduceLT, Int.reduceLT, Int.reduceLE, Int.reduceToNat, Int.reduceEq, Int.cast_ofNat_Int, f1, hlen, hg, p1, p2, encObj_0, Int.toNat_natCast]
    refine app_in2 hk htok htok' hap (by simp [rawL]; omega) fun tok2 k2 hk2 htok2 htok2' hap2 => ?_
    simp only [sZ, initT, optI, splice, reduceIte, reduceCtorEq, Nat.reduceEqDiff, Nat.reduceAdd, Nat.reduceSub, Nat.reduceMul, Nat.reduceLeDiff, Nat.reduceLT, Int.reduceLT, Int.reduceLE, Int.reduceToNat, Int.reduceEq, Int.cast_ofNat_Int, f1, hlen, hg, p1, p2, encObj_0, Int.toNat_natCast]
    refine app_in2 hk2 htok2' htok2 hap2.symm (by simp [rawL]; omega) fun tok3 k3 hk3 htok3 htok3' hap3 => ?_
    simp only [sZ, initT, optI, splice, reduceIte, reduceCtorEq, Nat.reduceEqDiff, Nat.reduceAdd, Nat.reduceSub, Nat.reduceMul, Nat.reduceLeDiff, Nat.reduceLT, Int.reduceLT, Int.reduceLE, Int.reduceToNat, Int.reduceEq, Int.cast_ofNat_Int, hw]
    refine next_L (by omega) (tok2, tok3, k3) (SExt.refl _) rfl ?_ ⟨hk3, htok3', htok3, hap3.symm⟩
    rw [e5, e2]
    exact (by (try simp only [TabLe_cons, TabLe_nil, tab_cons, tab_nil, upd_apply, Nat.reduceEqDiff, reduceIte, and_true]); repeat' (first | exact trivial | exact A.le_refl _ | exact le_strip_no _ _ _ | exact A.le_no _ _ _ | exact A.le_empty _ _ _ | refine And.intro ?_ ?_))
  · have hje : j = 5 := by have := of_decide_eq_false hge; omega
    subst hje
    have ht5 : hMap.take 5 = hMap := rfl
    rw [ht5]
    have l5 : (rawL 5 hMap).length = 5 := rfl
    have t5 : (rawL 5 hMap).take 5 = rawL 5 hMap := rfl
    simp only [sZ, initT, optI, splice, reduceIte, reduceCtorEq, Nat.reduceEqDiff, Nat.reduceAdd, Nat.reduceSub, Nat.reduceMul, Nat.reduceLeDiff, Nat.reduceLT, Int.reduceLT, Int.reduceLE, Int.reduceToNat, Int.reduceEq, Int.cast_ofNat_Int, f1, l5, t5]
    refine app_in hk (.inr (.inl rfl)) (by simp [rawL]; decide) fun tok4 k4 hk4 htok4 => ?_
    simp only [sZ, initT, optI, splice, reduceIte, reduceCtorEq, Nat.reduceEqDiff, Nat.reduceAdd, Nat.reduceSub, Nat.reduceMul, Nat.reduceLeDiff, Nat.reduceLT, Int.reduceLT, Int.reduceLE, Int.reduceToNat, Int.reduceEq, Int.cast_ofNat_Int, f1]
    have hmA : A.le (.agg [.sl 6 hL .full]) (.agg (encMap hMap)) := A.le_agg (.cons (A.le_no _ _ _) .nil)
    refine callS_quiet (Spec.args (F1 _ _) (.cons hmA (.cons (strip_le drops_le) .nil))) ?_
    simp only [sZ, initT, optI, splice, reduceIte, reduceCtorEq, Nat.reduceEqDiff, Nat.reduceAdd, Nat.reduceSub, Nat.reduceMul, Nat.reduceLeDiff, Nat.reduceLT, Int.reduceLT, Int.reduceLE, Int.reduceToNat, Int.reduceEq, Int.cast_ofNat_Int, f1, encEvid]
    (with_reducible refine newS_in ?_); intro b6 f6; simp only [upd_none] at f6
    simp only [sZ, initT, optI, splice, reduceIte, reduceCtorEq, Nat.reduceEqDiff, Nat.reduceAdd, Nat.reduceSub, Nat.reduceMul, Nat.reduceLeDiff, Nat.reduceLT, Int.reduceLT, Int.reduceLE, Int.reduceToNat, Int.reduceEq, Int.cast_ofNat_Int, f1, f6]
    refine callS_quiet (Spec.args (F2 _ _) (.cons hmA (.cons (strip_le both_le) .nil))) ?_
    simp only [sZ, initT, optI, splice, reduceIte, reduceCtorEq, Nat.reduceEqDiff, Nat.reduceAdd, Nat.reduceSub, Nat.reduceMul, Nat.reduceLeDiff, Nat.reduceLT, Int.reduceLT, Int.reduceLE, Int.reduceToNat, Int.reduceEq, Int.cast_ofNat_Int, f1, f6, encEvid]
    (with_reducible refine newS_in ?_); intro b7 f7; simp only [upd_none] at f7
    simp only [sZ, initT, optI, splice, reduceIte, reduceCtorEq, Nat.reduceEqDiff, Nat.reduceAdd, Nat.reduceSub, Nat.reduceMul, Nat.reduceLeDiff, Nat.reduceLT, Int.reduceLT, Int.reduceLE, Int.reduceToNat, Int.reduceEq, Int.cast_ofNat_Int, f1, f6, f7]
    refine callQS_quiet (spec_head1 _) ?_
    simp only [sZ, initT, optI, splice, reduceIte, reduceCtorEq, Nat.reduceEqDiff, Nat.reduceAdd, Nat.reduceSub, Nat.reduceMul, Nat.reduceLeDiff, Nat.reduceLT, Int.reduceLT, Int.reduceLE, Int.reduceToNat, Int.reduceEq, Int.cast_ofNat_Int, f1, f6, f7]
    refine callQS_quiet (spec_head1 _) ?_
    simp only [sZ, initT, optI, splice, reduceIte, reduceCtorEq, Nat.reduceEqDiff, Nat.reduceAdd, Nat.reduceSub, Nat.reduceMul, Nat.reduceLeDiff, Nat.reduceLT, Int.reduceLT, Int.reduceLE, Int.reduceToNat, Int.reduceEq, Int.cast_ofNat_Int, f1, f6, f7]
    refine callQS_quiet (spec_head1 _) ?_
    simp only [sZ, initT, optI, splice, reduceIte, reduceCtorEq, Nat.reduceEqDiff, Nat.reduceAdd, Nat.reduceSub, Nat.reduceMul, Nat.reduceLeDiff, Nat.reduceLT, Int.reduceLT, Int.reduceLE, Int.reduceToNat, Int.reduceEq, Int.cast_ofNat_Int, f1, f6, f7, len_encEdit, wh_encEdit, st_encEdit]
    refine callQS_quiet (Spec.args (F3 _ _) (.cons hmA (.cons (A.le_no 15 (hBlanks.map encEdit) _) .nil))) ?_
    simp only [sZ, initT, optI, splice, reduceIte, reduceCtorEq, Nat.reduceEqDiff, Nat.reduceAdd, Nat.reduceSub, Nat.reduceMul, Nat.reduceLeDiff, Nat.reduceLT, Int.reduceLT, Int.reduceLE, Int.reduceToNat, Int.reduceEq, Int.cast_ofNat_Int, f1, f6, f7, encEvid]
    refine newR_in ?_
    intro b8 f8 g8
    simp only [upd_none, rr_eqs2, and_true] at f8 g8
    simp only [sZ, initT, optI, splice, reduceIte, reduceCtorEq, Nat.reduceEqDiff, Nat.reduceAdd, Nat.reduceSub, Nat.reduceMul, Nat.reduceLeDiff, Nat.reduceLT, Int.reduceLT, Int.reduceLE, Int.reduceToNat, Int.reduceEq, Int.cast_ofNat_Int, f1, f6, f7, f8]
    have sA : ∀ t s k, Spec prg 12 [.agg [.int .i64 1, .sl 1 ([0, 1, 2, 3, 4].map encInt) .no], .agg [.int .i64 1, .sl 1 [[.int .i64 0], [.int .i64 1], [.int .i64 2], [.int .i64 3], [.int .i64 4]] t]] s k (.bool true) s k := fun t s k =>
      Spec.args (@spec_sameEv ⟨1, [0, 1, 2, 3, 4]⟩ ⟨1, [0, 1, 2, 3, 4]⟩ (by decide) s k) (.cons (A.le_refl _) (.cons (A.le_agg (.cons (A.le_refl _) (.cons (A.le_no _ _ _) .nil))) .nil))
    have sB : ∀ t s k, Spec prg 12 [.agg [.int .i64 0, .sl 1 (([] : List Int).map encInt) .no], .agg [.int .i64 0, .sl 1 [] t]] s k (.bool true) s k := fun t s k =>
      Spec.args (@spec_sameEv ⟨0, []⟩ ⟨0, []⟩ (by decide) s k) (.cons (A.le_refl _) (.cons (A.le_agg (.cons (A.le_refl _) (.cons (A.le_no _ _ _) .nil))) .nil))
    have sC : ∀ t s k, Spec prg 12 [.agg [.int .i64 2, .sl 1 ([0, 1, 2].map encInt) .no], .agg [.int .i64 2, .sl 1 [[.int .i64 0], [.int .i64 1], [.int .i64 2]] t]] s k (.bool true) s k := fun t s k =>
      Spec.args (@spec_sameEv ⟨2, [0, 1, 2]⟩ ⟨2, [0, 1, 2]⟩ (by decide) s k) (.cons (A.le_refl _) (.cons (A.le_agg (.cons (A.le_refl _) (.cons (A.le_no _ _ _) .nil))) .nil))
    refine callS_quiet (sA _ _ _) ?_
    simp only [sZ, initT, optI, splice, reduceIte, reduceCtorEq, Nat.reduceEqDiff, Nat.reduceAdd, Nat.reduceSub, Nat.reduceMul, Nat.reduceLeDiff, Nat.reduceLT, Int.reduceLT, Int.reduceLE, Int.reduceToNat, Int.reduceEq, Int.cast_ofNat_Int, f1, f6, f7, f8]
    refine callS_quiet (sB _ _ _) ?_
    simp only [sZ, initT, optI, splice, reduceIte, reduceCtorEq, Nat.reduceEqDiff, Nat.reduceAdd, Nat.reduceSub, Nat.reduceMul, Nat.reduceLeDiff, Nat.reduceLT, Int.reduceLT, Int.reduceLE, Int.reduceToNat, Int.reduceEq, Int.cast_ofNat_Int, f1, f6, f7, f8]
    refine callS_quiet (sC _ _ _) ?_
    simp only [sZ, initT, optI, splice, reduceIte, reduceCtorEq, Nat.reduceEqDiff, Nat.reduceAdd, Nat.reduceSub, Nat.reduceMul, Nat.reduceLeDiff, Nat.reduceLT, Int.reduceLT, Int.reduceLE, Int.reduceToNat, Int.reduceEq, Int.cast_ofNat_Int, f1, f6, f7, f8]
    refine OutQ.eqk (by repeat (first | exact SExt.refl _ | (refine SExt.old ?_ (by first | (simp only [*]; done) | (simp only [upd_none]; assumption) | (simp only [upd_none, *, not_false_eq_true, and_self]; done)) _))) hk4 rfl
end Go.Pv
