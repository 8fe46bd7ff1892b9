/- Putting an object into a map. -/
import Derived.Test.YtlcacobkiglmbaaBoxW
set_option linter.unusedVariables false
set_option linter.unusedSimpArgs false
set_option maxRecDepth 4000
set_option maxHeartbeats 4000000
namespace Go.Pv
open Go

def mapE : Enc (List Obj) := ⟨encMap, 1, fun _ => rfl, fun _ => rfl⟩
theorem spec_valid (m : List Obj) (hm : MapFit m) (t : Tok) {s : Nat → Option Blk} {k : Nat → Tk} : Spec prg 50 [.sl 1 [[.sl 6 (m.map encObj) .no]] t] s k (.bool (mapV m)) s k := by
  have hI : ∀ s k, Spec prg 114 [.sl 1 [[.sl 6 (m.map encObj) .no]] .no, .fn 89 []] s k (.int .i64 (idxOf (fun m => !mapV m) [m])) s k := fun s k =>
    spec_idx mapE tr_slices_IndexFunc_Map (Nat.le_of_ble_eq_true rfl) [m] (fun m => !mapV m) 89 [] (by show (1 : Nat) < _; omega) (fun x hx => by
      simp only [List.mem_cons, List.not_mem_nil, or_false] at hx
      subst hx
      exact spec_valid_1 x hm)
  have hC : ∀ s k, Spec prg 88 [.sl 1 [[.sl 6 (m.map encObj) .no]] .no, .fn 89 []] s k (.bool (!mapV m)) s k := fun s k => by
    refine spec_tr prg_mixed tr_slices_ContainsFunc_Map (Nat.le_of_ble_eq_true rfl) rfl ?_
    unfold pc_slices_ContainsFunc_Map rs_slices_ContainsFunc_Map
    simp only [sZ, initT, optI, splice, reduceIte, reduceCtorEq, Nat.reduceEqDiff, Nat.reduceAdd, Nat.reduceSub, Nat.reduceMul, Nat.reduceLeDiff, Nat.reduceLT, Int.reduceLT, Int.reduceLE, Int.reduceToNat, Int.reduceEq, Int.cast_ofNat_Int]
    refine callS_quiet (hI _ _) ?_
    cases hv : mapV m
    · have : idxOf (fun m => !mapV m) [m] = 0 := by
        have h := idxOf_some (p := fun m => !mapV m) (l := [m]) (i := 0) (Nat.zero_lt_succ _) (by simp [hv]) (fun j _ h => by omega)
        exact h
      rw [this]
      simp only [sZ, initT, optI, splice, reduceIte, reduceCtorEq, Nat.reduceEqDiff, Nat.reduceAdd, Nat.reduceSub, Nat.reduceMul, Nat.reduceLeDiff, Nat.reduceLT, Int.reduceLT, Int.reduceLE, Int.reduceToNat, Int.reduceEq, Int.cast_ofNat_Int]
      refine OutQ.eq (by repeat (first | exact SExt.refl _ | (refine SExt.old ?_ (by first | (simp only [*]; done) | (simp only [upd_none]; assumption) | (simp only [upd_none, *, not_false_eq_true, and_self]; done)) _))) rfl
    · have : idxOf (fun m => !mapV m) [m] = -1 := idxOf_none fun j hj => by
        obtain rfl : j = 0 := by simpa using hj
        simp [hv]
      rw [this]
      simp only [sZ, initT, optI, splice, reduceIte, reduceCtorEq, Nat.reduceEqDiff, Nat.reduceAdd, Nat.reduceSub, Nat.reduceMul, Nat.reduceLeDiff, Nat.reduceLT, Int.reduceLT, Int.reduceLE, Int.reduceToNat, Int.reduceEq, Int.cast_ofNat_Int]
      refine OutQ.eq (by repeat (first | exact SExt.refl _ | (refine SExt.old ?_ (by first | (simp only [*]; done) | (simp only [upd_none]; assumption) | (simp only [upd_none, *, not_false_eq_true, and_self]; done)) _))) rfl
  refine Spec.args (ys := [.sl 1 [[.sl 6 (m.map encObj) .no]] .no]) ?_ (.cons (A.le_no _ _ _) .nil)
  refine spec_tr prg_mixed tr_atlas_valid (Nat.le_of_ble_eq_true rfl) rfl ?_
  unfold pc_atlas_valid rs_atlas_valid
  simp only [sZ, initT, optI, splice, reduceIte, reduceCtorEq, Nat.reduceEqDiff, Nat.reduceAdd, Nat.reduceSub, Nat.reduceMul, Nat.reduceLeDiff, Nat.reduceLT, Int.reduceLT, Int.reduceLE, Int.reduceToNat, Int.reduceEq, Int.cast_ofNat_Int]
  refine callS_quiet (hC _ _) ?_
  simp only [sZ, initT, optI, splice, reduceIte, reduceCtorEq, Nat.reduceEqDiff, Nat.reduceAdd, Nat.reduceSub, Nat.reduceMul, Nat.reduceLeDiff, Nat.reduceLT, Int.reduceLT, Int.reduceLE, Int.reduceToNat, Int.reduceEq, Int.cast_ofNat_Int, Bool.not_not]
  refine OutQ.eq (by repeat (first | exact SExt.refl _ | (refine SExt.old ?_ (by first | (simp only [*]; done) | (simp only [upd_none]; assumption) | (simp only [upd_none, *, not_false_eq_true, and_self]; done)) _))) rfl
theorem spec_find_1 (o : Obj) (x : ByteArray) {b : Nat} {s : Hp} {k : Nat → Tk} (hb : s b = some (.cells [.str x])) : Spec prg 56 [.agg (encObj o), .ptr b 0] s k (.bool (decide (o.id = x))) s k := by
  refine spec_tr prg_mixed tr_atlas_Find_1 (Nat.le_of_ble_eq_true rfl) rfl ?_
  unfold pc_atlas_Find_1 rs_atlas_Find_1
  obtain ⟨id, kind, px, py, refs, tags⟩ := o
  simp only [sZ, initT, optI, splice, reduceIte, reduceCtorEq, Nat.reduceEqDiff, Nat.reduceAdd, Nat.reduceSub, Nat.reduceMul, Nat.reduceLeDiff, Nat.reduceLT, Int.reduceLT, Int.reduceLE, Int.reduceToNat, Int.reduceEq, Int.cast_ofNat_Int, encObj]
  (with_reducible refine newS_in ?_); intro b2 f2; simp only [upd_none] at f2
  have n1 : ¬ b = b2 := fun e => by subst e; rw [hb] at f2; cases f2
  simp only [sZ, initT, optI, splice, reduceIte, reduceCtorEq, Nat.reduceEqDiff, Nat.reduceAdd, Nat.reduceSub, Nat.reduceMul, Nat.reduceLeDiff, Nat.reduceLT, Int.reduceLT, Int.reduceLE, Int.reduceToNat, Int.reduceEq, Int.cast_ofNat_Int, f2, n1, hb]
  refine OutQ.eq (by repeat (first | exact SExt.refl _ | (refine SExt.old ?_ (by first | (simp only [*]; done) | (simp only [upd_none]; assumption) | (simp only [upd_none, *, not_false_eq_true, and_self]; done)) _))) rfl
theorem spec_find (m : List Obj) (x : ByteArray) (hl : m.length < 4611686018427387904) {s : Hp} {k : Nat → Tk} : Spec prg 23 [.agg (encMap m), .str x] s k (.int .i64 (idxOf (fun o : Obj => decide (o.id = x)) m)) s k := by
  refine spec_tr prg_mixed tr_atlas_Find (Nat.le_of_ble_eq_true rfl) rfl ?_
  unfold pc_atlas_Find rs_atlas_Find
  simp only [sZ, initT, optI, splice, reduceIte, reduceCtorEq, Nat.reduceEqDiff, Nat.reduceAdd, Nat.reduceSub, Nat.reduceMul, Nat.reduceLeDiff, Nat.reduceLT, Int.reduceLT, Int.reduceLE, Int.reduceToNat, Int.reduceEq, Int.cast_ofNat_Int, encMap]
  (with_reducible refine newS_in ?_); intro b2 f2; simp only [upd_none] at f2
  simp only [sZ, initT, optI, splice, reduceIte, reduceCtorEq, Nat.reduceEqDiff, Nat.reduceAdd, Nat.reduceSub, Nat.reduceMul, Nat.reduceLeDiff, Nat.reduceLT, Int.reduceLT, Int.reduceLE, Int.reduceToNat, Int.reduceEq, Int.cast_ofNat_Int, f2]
  (with_reducible refine newS_in ?_); intro b3 f3; simp only [upd_none] at f3
  simp only [sZ, initT, optI, splice, reduceIte, reduceCtorEq, Nat.reduceEqDiff, Nat.reduceAdd, Nat.reduceSub, Nat.reduceMul, Nat.reduceLeDiff, Nat.reduceLT, Int.reduceLT, Int.reduceLE, Int.reduceToNat, Int.reduceEq, Int.cast_ofNat_Int, f2, f3]
  refine callS_quiet (spec_idx objE tr_slices_IndexFunc_Object (Nat.le_of_ble_eq_true rfl) m (fun o : Obj => decide (o.id = x)) 56 [.ptr b3 0] hl (fun o ho => spec_find_1 o x (by simp only [upd_apply, reduceIte]))) ?_
  simp only [sZ, initT, optI, splice, reduceIte, reduceCtorEq, Nat.reduceEqDiff, Nat.reduceAdd, Nat.reduceSub, Nat.reduceMul, Nat.reduceLeDiff, Nat.reduceLT, Int.reduceLT, Int.reduceLE, Int.reduceToNat, Int.reduceEq, Int.cast_ofNat_Int, f2, f3]
  refine OutQ.eq (by repeat (first | exact SExt.refl _ | (refine SExt.old ?_ (by first | (simp only [*]; done) | (simp only [upd_none]; assumption) | (simp only [upd_none, *, not_false_eq_true, and_self]; done)) _))) rfl
def putF (m : List Obj) (o : Obj) : List Obj := if hasF m o.id = true then m.take (posF m o.id) ++ [o] ++ m.drop (posF m o.id + 1) else m.take (posF m o.id) ++ [o] ++ m.drop (posF m o.id)
def putR (m : List Obj) (o : Obj) : List Obj × Int := if (mapV m && objV o) = true then (putF m o, 0) else ([], 1)
theorem pos_le (m : List Obj) (x : ByteArray) : posF m x ≤ m.length := List.findIdx_le_length
theorem part1 {xs : List (List A)} {cs : List A} {n : Nat} (hxs : ∀ y ∈ xs, y.length = n) (ht : cs.take (xs.length * n) = flatS xs) {i : Nat} (hi : i < xs.length) : (cs.drop (i * n)).take n = flatS [xs[i]] := by
  have hP : (flatS (xs.take i)).length = i * n := by
    rw [flatS_length fun y hy => hxs y (List.mem_of_mem_take hy), List.length_take, Nat.min_eq_left (by omega)]
  have h1 : (cs.take (xs.length * n)).drop (i * n) = (cs.drop (i * n)).take (xs.length * n - i * n) := List.drop_take
  have h2 : (flatS xs).drop (i * n) = flatS (xs.drop i) := by
    rw [← flatS_take_drop xs i]
    exact List.drop_left' hP
  have h3 : xs.drop i = [xs[i]] ++ xs.drop (i + 1) := by
    rw [List.drop_eq_getElem_cons hi]
    rfl
  have h4 : (flatS (xs.drop i)).take n = flatS [xs[i]] := by
    rw [h3, flatS_app]
    refine List.take_left' ?_
    rw [flatS_length (m := n) (by simp only [List.mem_singleton, forall_eq]; exact hxs _ (List.getElem_mem hi))]
    simp
  have h5 : ((cs.drop (i * n)).take (xs.length * n - i * n)).take n = (cs.drop (i * n)).take n := by
    rw [List.take_take, Nat.min_eq_left]
    rw [← Nat.sub_mul]
    exact Nat.le_mul_of_pos_left _ (by omega)
  rw [← h5, ← h1, ht, h2, h4]
/-- A box of objects as what a call returns. -/
theorem frz_box {s s0 : Hp} {esz id c : Nat} {cs : List A} {xs : List (List A)} (hc : s id = some (.cells cs)) (hid : s0 id = none) (hxs : ∀ y ∈ xs, y.length = esz) (hst : ∀ y ∈ xs, y.map A.strip = y) (hl : cs.length = c * esz) (hn : xs.length ≤ c) (ht : cs.take (xs.length * esz) = flatS xs) :
    Frz s s0 (.sb id 0 esz xs.length c) (.sl esz xs .no) := by
  refine .sb id 0 esz xs.length c cs xs hc hid (by rw [Nat.zero_add, hl]; exact Nat.mul_le_mul_right _ hn) rfl fun i x hx => ?_
  obtain ⟨hi, rfl⟩ := List.getElem?_eq_some_iff.1 hx
  rw [Nat.zero_add, part1 hxs ht hi, flatS_strip]
  unfold flatS
  simp only [List.map_cons, List.map_nil, List.flatten_cons, List.flatten_nil, List.append_nil]
  exact (hst _ (List.getElem_mem hi)).symm
theorem CloB.strip {base hp : Hp} {v : A} {xs : List (List A)} (h : CloB base hp v xs) : v.strip = v := by
  rcases h with h | ⟨_, rfl, _⟩
  · exact h.strip
  · rfl
theorem SExt.both {a b : Hp} (h : SExt a b) (i : Nat) (x : Option Blk) : SExt (upd a i x) (upd b i x) := fun j hj => by
  simp only [upd_apply] at hj ⊢
  by_cases e : j = i
  · rw [if_pos e, if_pos e]
  · rw [if_neg e] at hj
    rw [if_neg e, if_neg e]
    exact h j hj
theorem CloB.push {base hp : Hp} {v : A} {xs : List (List A)} {b : Nat} (X : Blk) (h : CloB base hp v xs) (hb : hp b = none) : CloB (upd base b (some X)) (upd hp b (some X)) v xs := by
  rcases h with ⟨h1, h2, h3 | ⟨id, c, cs, rfl, hbid, hc, h0, hn, hcm, hcl, ht⟩⟩ | ⟨h1, h2, h3⟩
  · exact .inl ⟨h1.both _ _, h2, .inl h3⟩
  · have n : ¬ id = b := fun e => by subst e; rw [hc] at hb; cases hb
    exact .inl ⟨h1.both _ _, h2, .inr ⟨id, c, cs, rfl, by rw [upd_apply, if_neg n]; exact hbid, by rw [upd_apply, if_neg n]; exact hc, h0, hn, hcm, hcl, ht⟩⟩
  · exact .inr ⟨h1, h2, h3.both _ _⟩
theorem CloB.ext {base hp : Hp} {v : A} {xs : List (List A)} (h : CloB base hp v xs) : SExt base hp := by
  rcases h with h | h
  · exact h.1
  · exact h.2.2
theorem CloB.solid {base hp : Hp} {v : A} {xs : List (List A)} (h : CloB base hp v xs) : v.solid = true ∧ v.scells = [v] ∧ v.pcells = [v] := by
  rcases h with ⟨_, _, ⟨_, rfl⟩ | ⟨id, c, cs, rfl, _⟩⟩ | ⟨_, rfl, _⟩ <;> exact ⟨rfl, rfl, rfl⟩
theorem set_cells (cs P V Q : List A) (h : cs.take (P.length + V.length + Q.length) = P ++ V ++ Q) (W : List A) (hW : W.length = V.length) (hl : P.length + V.length + Q.length ≤ cs.length) : (splice cs P.length W).take (P.length + V.length + Q.length) = P ++ W ++ Q := by
  have e : cs = P ++ (V ++ (Q ++ cs.drop (P.length + V.length + Q.length))) := by
    conv => lhs; rw [← List.take_append_drop (P.length + V.length + Q.length) cs, h]
    simp only [List.append_assoc]
  generalize cs.drop (P.length + V.length + Q.length) = R at e
  subst e
  unfold splice
  have e1 : (P ++ (V ++ (Q ++ R))).take P.length = P := List.take_left' rfl
  have e2 : (P ++ (V ++ (Q ++ R))).drop (P.length + W.length) = Q ++ R := by
    rw [hW, ← List.drop_drop, List.drop_left' rfl, List.drop_left' rfl]
  rw [e1, e2, ← hW, show P.length + W.length + Q.length = (P ++ W ++ Q).length by simp only [List.length_append], ← List.append_assoc]
  exact List.take_left' rfl
theorem spec_put (m : List Obj) (o : Obj) (hm : MapFit m) (ho : ObjFit o) (hl : m.length < 1000000) {s : Hp} {k : Nat → Tk} : Spec prg 20 [.agg (encMap m), .agg (encObj o)] s k (.tup [.agg (encMap (putR m o).1), .int .i64 (putR m o).2]) s k := by
  refine spec_tr prg_mixed tr_atlas_Put (Nat.le_of_ble_eq_true rfl) rfl ?_
  unfold pc_atlas_Put rs_atlas_Put
  have hv := fun t s k => @spec_valid m hm t s k
  have hov := fun s k => @spec_obj o ho s k
  have hat := fun h s k => @spec_at m o.id h (by omega) s k
  have hcl := fun s k => @spec_clone m (by omega) s k
  simp only [encMap] at hat
  simp only [sZ, initT, optI, splice, reduceIte, reduceCtorEq, Nat.reduceEqDiff, Nat.reduceAdd, Nat.reduceSub, Nat.reduceMul, Nat.reduceLeDiff, Nat.reduceLT, Int.reduceLT, Int.reduceLE, Int.reduceToNat, Int.reduceEq, Int.cast_ofNat_Int, encMap]
  (with_reducible refine newS_in ?_); intro b2 f2; simp only [upd_none] at f2
  simp only [sZ, initT, optI, splice, reduceIte, reduceCtorEq, Nat.reduceEqDiff, Nat.reduceAdd, Nat.reduceSub, Nat.reduceMul, Nat.reduceLeDiff, Nat.reduceLT, Int.reduceLT, Int.reduceLE, Int.reduceToNat, Int.reduceEq, Int.cast_ofNat_Int, len_encObj, wh_encObj, st_encObj]
  (with_reducible refine newS_in ?_); intro b3 f3; simp only [upd_none] at f3
  simp only [sZ, initT, optI, splice, reduceIte, reduceCtorEq, Nat.reduceEqDiff, Nat.reduceAdd, Nat.reduceSub, Nat.reduceMul, Nat.reduceLeDiff, Nat.reduceLT, Int.reduceLT, Int.reduceLE, Int.reduceToNat, Int.reduceEq, Int.cast_ofNat_Int]
  (with_reducible refine newS_in ?_); intro b4 f4; simp only [upd_none] at f4
  simp only [sZ, initT, optI, splice, reduceIte, reduceCtorEq, Nat.reduceEqDiff, Nat.reduceAdd, Nat.reduceSub, Nat.reduceMul, Nat.reduceLeDiff, Nat.reduceLT, Int.reduceLT, Int.reduceLE, Int.reduceToNat, Int.reduceEq, Int.cast_ofNat_Int, f2, f3, f4]
  refine callS_quiet (hv _ _ _) ?_
  cases hmv : mapV m
  · have hR : putR m o = ([], 1) := by unfold putR; rw [hmv, Bool.false_and, if_neg (by decide)]
    rw [hR]
    simp only [sZ, initT, optI, splice, reduceIte, reduceCtorEq, Nat.reduceEqDiff, Nat.reduceAdd, Nat.reduceSub, Nat.reduceMul, Nat.reduceLeDiff, Nat.reduceLT, Int.reduceLT, Int.reduceLE, Int.reduceToNat, Int.reduceEq, Int.cast_ofNat_Int, f2, f3, f4, Bool.not_false]
    exact OutQ.le (by repeat (first | exact SExt.refl _ | (refine SExt.old ?_ (by first | (simp only [*]; done) | (simp only [upd_none]; assumption) | (simp only [upd_none, *, not_false_eq_true, and_self]; done)) _))) (A.le_tup (.cons (A.le_agg (.cons (A.le_no _ _ _) .nil)) (.cons (A.le_refl _) .nil)))
  simp only [sZ, initT, optI, splice, reduceIte, reduceCtorEq, Nat.reduceEqDiff, Nat.reduceAdd, Nat.reduceSub, Nat.reduceMul, Nat.reduceLeDiff, Nat.reduceLT, Int.reduceLT, Int.reduceLE, Int.reduceToNat, Int.reduceEq, Int.cast_ofNat_Int, f2, f3, f4, Bool.not_true, len_encObj, wh_encObj, st_encObj]
  refine callS_quiet (hov _ _) ?_
  cases hobv : objV o
  · have hR : putR m o = ([], 1) := by unfold putR; rw [hmv, hobv, Bool.and_false, if_neg (by decide)]
    rw [hR]
    simp only [sZ, initT, optI, splice, reduceIte, reduceCtorEq, Nat.reduceEqDiff, Nat.reduceAdd, Nat.reduceSub, Nat.reduceMul, Nat.reduceLeDiff, Nat.reduceLT, Int.reduceLT, Int.reduceLE, Int.reduceToNat, Int.reduceEq, Int.cast_ofNat_Int, f2, f3, f4, Bool.not_false]
    exact OutQ.le (by repeat (first | exact SExt.refl _ | (refine SExt.old ?_ (by first | (simp only [*]; done) | (simp only [upd_none]; assumption) | (simp only [upd_none, *, not_false_eq_true, and_self]; done)) _))) (A.le_tup (.cons (A.le_agg (.cons (A.le_no _ _ _) .nil)) (.cons (A.le_refl _) .nil)))
  have hR : putR m o = (putF m o, 0) := by unfold putR; rw [hmv, hobv, Bool.and_self, if_pos rfl]
  rw [hR]
  have hat2 := hat hmv
  have hpl := pos_le m o.id
  have hpF : putF m o = if hasF m o.id = true then m.take (posF m o.id) ++ [o] ++ m.drop (posF m o.id + 1) else m.take (posF m o.id) ++ [o] ++ m.drop (posF m o.id) := rfl
  have hhas : hasF m o.id = true → posF m o.id < m.length := fun h => by
    unfold hasF at h
    rw [List.any_eq_true] at h
    obtain ⟨p, hp, he⟩ := h
    have he := of_decide_eq_true he
    unfold posF
    refine List.findIdx_lt_length_of_exists ⟨p, hp, ?_⟩
    rw [he, lt_irrefl]
    rfl
  generalize putF m o = R at *
  generalize posF m o.id = q at *
  generalize hasF m o.id = hs at *
  simp only [sZ, initT, optI, splice, reduceIte, reduceCtorEq, Nat.reduceEqDiff, Nat.reduceAdd, Nat.reduceSub, Nat.reduceMul, Nat.reduceLeDiff, Nat.reduceLT, Int.reduceLT, Int.reduceLE, Int.reduceToNat, Int.reduceEq, Int.cast_ofNat_Int, f2, f3, f4, Bool.not_true, encObj_0]
  refine callS_quiet (hat2 _ _) ?_
  simp only [sZ, initT, optI, splice, reduceIte, reduceCtorEq, Nat.reduceEqDiff, Nat.reduceAdd, Nat.reduceSub, Nat.reduceMul, Nat.reduceLeDiff, Nat.reduceLT, Int.reduceLT, Int.reduceLE, Int.reduceToNat, Int.reduceEq, Int.cast_ofNat_Int, f2, f3, f4]
  refine callS_R (hcl _ _) ?_
  rintro r s' k' ⟨hG, hk'⟩
  rw [hk']
  clear hk' k' hcl hat hat2 hov hv
  dsimp only at hG
  have hs0 : ∃ s0, s0 = upd (upd (upd s b2 (some (.cells [.sl 6 (m.map encObj) .no]))) b3 (some (.cells (encObj o)))) b4 (some (.cells [.sl 6 [] .nil])) := ⟨_, rfl⟩
  obtain ⟨s0, hs0⟩ := hs0
  rw [← hs0] at hG
  have g2 : s0 b2 = some (.cells [.sl 6 (m.map encObj) .no]) := by
    rw [hs0]
    simp only [upd_apply, f3, f4, reduceIte]
  have g3 : s0 b3 = some (.cells (encObj o)) := by
    rw [hs0]
    simp only [upd_apply, f3, f4, reduceIte]
  have g4 : s0 b4 = some (.cells [.sl 6 [] .nil]) := by
    rw [hs0]
    simp only [upd_apply, reduceIte]
  have gs : SExt s s0 := by
    rw [hs0]
    repeat (first | exact SExt.refl _ | (refine SExt.old ?_ (by first | (simp only [*]; done) | (simp only [upd_none]; assumption) | (simp only [upd_none, *, not_false_eq_true, and_self]; done)) _))
  have hv := hG.strip
  have hm' : ∀ y ∈ m.map encObj, y.length = 6 := fun y hy => by obtain ⟨p, _, rfl⟩ := List.mem_map.1 hy; rfl
  have hst : ∀ l : List Obj, ∀ y ∈ l.map encObj, y.map A.strip = y := fun l y hy => by obtain ⟨p, _, rfl⟩ := List.mem_map.1 hy; rfl
  have e6 : (encObj o).length = 6 := rfl
  have d6 : decide ((m.length : Int) = 1000000) = false := decide_eq_false (by omega)
  clear hs0 hmv hobv hR
  cases hs
  · -- a new object
    rw [if_neg (by decide)] at hpF
    have hRm : R.map encObj = (m.map encObj).take q ++ [encObj o] ++ (m.map encObj).drop q := by
      rw [hpF, List.map_append, List.map_append, List.map_take, List.map_drop]
      rfl
    have hins := fun k => @spec_insert (m.map encObj) (encObj o) q (by simpa using hpl) rfl (by simp; omega) s0 r
    rw [← hRm] at hins
    have hb := hG.ext
    obtain ⟨hs1, hs2, hs3⟩ := hG.solid
    simp only [sZ, initT, optI, splice, reduceIte, reduceCtorEq, Nat.reduceEqDiff, Nat.reduceAdd, Nat.reduceSub, Nat.reduceMul, Nat.reduceLeDiff, Nat.reduceLT, Int.reduceLT, Int.reduceLE, Int.reduceToNat, Int.reduceEq, Int.cast_ofNat_Int, hv, hs1, hs2]
    (with_reducible refine newS_in ?_); intro b8 f8; simp only [upd_none] at f8
    have n2 : ¬ b2 = b8 := fun e => by subst e; rw [hb b2 (by rw [g2]; simp), g2] at f8; cases f8
    have n3 : ¬ b3 = b8 := fun e => by subst e; rw [hb b3 (by rw [g3]; simp), g3] at f8; cases f8
    have n4 : ¬ b4 = b8 := fun e => by subst e; rw [hb b4 (by rw [g4]; simp), g4] at f8; cases f8
    have k2 : s' b2 = some (.cells [.sl 6 (m.map encObj) .no]) := by rw [hb b2 (by rw [g2]; simp), g2]
    have k3 : s' b3 = some (.cells (encObj o)) := by rw [hb b3 (by rw [g3]; simp), g3]
    have k4 : s' b4 = some (.cells [.sl 6 [] .nil]) := by rw [hb b4 (by rw [g4]; simp), g4]
    simp only [sZ, initT, optI, splice, reduceIte, reduceCtorEq, Nat.reduceEqDiff, Nat.reduceAdd, Nat.reduceSub, Nat.reduceMul, Nat.reduceLeDiff, Nat.reduceLT, Int.reduceLT, Int.reduceLE, Int.reduceToNat, Int.reduceEq, Int.cast_ofNat_Int, hv, n2, n3, n4, k2, k3, k4, d6, len_encObj, wh_encObj, st_encObj]
    refine callS_R (@spec_insert (m.map encObj) (encObj o) q (by simpa using hpl) rfl (by simp; omega) (upd s0 b8 (some (.cells [r]))) r _ _ (hG.push (.cells [r]) f8)) ?_
    rintro r2 s2 k2' ⟨hG2, hk2⟩
    rw [hk2]
    clear hk2 k2' hins
    rw [← hRm] at hG2
    obtain ⟨hb2, hxs2, hG2⟩ := hG2
    have hRne : R.map encObj ≠ [] := by rw [hRm]; simp
    rcases hG2 with ⟨h1, _⟩ | ⟨id, c, cs, rfl, hbid, hc, h0, hn, hcm, hcl, ht⟩
    · exact absurd h1 hRne
    have k8 : s2 b8 = some (.cells [r]) := by rw [hb2 b8 (by rw [upd_same]; simp), upd_same]
    have k4' : s2 b4 = some (.cells [.sl 6 [] .nil]) := by
      rw [hb2 b4 (by rw [upd_apply, if_neg n4, g4]; simp), upd_apply, if_neg n4, g4]
    have n5 : ¬ id = b8 := fun e => by subst e; rw [upd_same] at hbid; cases hbid
    have n6 : ¬ id = b4 := fun e => by subst e; rw [upd_apply, if_neg n5, g4] at hbid; cases hbid
    simp only [sZ, initT, optI, splice, reduceIte, reduceCtorEq, Nat.reduceEqDiff, Nat.reduceAdd, Nat.reduceSub, Nat.reduceMul, Nat.reduceLeDiff, Nat.reduceLT, Int.reduceLT, Int.reduceLE, Int.reduceToNat, Int.reduceEq, Int.cast_ofNat_Int, hv, n2, n3, n4, k8, k4']
    refine ⟨.tup _ _ rfl fun j x y hx hy => ?_, fun i hi => ?_, KExt.refl _⟩
    · match j, hx, hy with
      | 0, hx, hy =>
        cases hx
        cases hy
        refine .agg _ _ rfl fun j x y hx hy => ?_
        match j, hx, hy with
        | 0, hx, hy =>
          cases hx
          cases hy
          have hRl : (R.map encObj).length = R.length := List.length_map _
          rw [← hRl]
          refine frz_box (cs := cs) (by show upd (upd s2 b8 _) b4 _ id = _; rw [upd_apply, if_neg n6, upd_apply, if_neg n5]; exact hc) ?_ hxs2 (hst R) hcl hn ht
          rw [upd_apply, if_neg n5] at hbid
          exact SExt.none gs hbid
        | j + 1, hx, hy => cases hx
      | 1, hx, hy =>
        cases hx
        cases hy
        exact .le (A.le_refl _)
      | j + 2, hx, hy => cases hx
    · have e0 : s0 i ≠ none := by rw [gs i hi]; exact hi
      have e8 : ¬ i = b8 := fun e => by subst e; rw [hb i e0] at f8; exact e0 f8
      have e4 : ¬ i = b4 := fun e => by subst e; exact hi f4.2.2
      have e2 : s2 i = s0 i := by rw [hb2 i (by rw [upd_apply, if_neg e8]; exact e0), upd_apply, if_neg e8]
      show upd (upd s2 b8 _) b4 _ i = s i
      rw [upd_apply, if_neg e4, upd_apply, if_neg e8, e2, gs i hi]
  · -- another in its place
    rw [if_pos rfl] at hpF
    have hqm := hhas rfl
    have hql : q < (m.map encObj).length := by simpa using hqm
    have hRm : R.map encObj = (m.map encObj).take q ++ [encObj o] ++ (m.map encObj).drop (q + 1) := by
      rw [hpF, List.map_append, List.map_append, List.map_take, List.map_drop]
      rfl
    have hb := hG.ext
    have hmne : m.map encObj ≠ [] := fun e => by rw [e] at hql; simp at hql
    rcases hG with hG | hG
    case inr => exact absurd hG.1 hmne
    obtain ⟨_, hxs, hG⟩ := hG
    rcases hG with hG | ⟨id, c, cs, rfl, hbid, hc, h0, hn, hcm, hcl, ht⟩
    · exact absurd hG.1 hmne
    simp only [sZ, initT, optI, splice, reduceIte, reduceCtorEq, Nat.reduceEqDiff, Nat.reduceAdd, Nat.reduceSub, Nat.reduceMul, Nat.reduceLeDiff, Nat.reduceLT, Int.reduceLT, Int.reduceLE, Int.reduceToNat, Int.reduceEq, Int.cast_ofNat_Int]
    (with_reducible refine newS_in ?_); intro b8 f8; simp only [upd_none] at f8
    have n2 : ¬ b2 = b8 := fun e => by subst e; rw [hb b2 (by rw [g2]; simp), g2] at f8; cases f8
    have n3 : ¬ b3 = b8 := fun e => by subst e; rw [hb b3 (by rw [g3]; simp), g3] at f8; cases f8
    have n4 : ¬ b4 = b8 := fun e => by subst e; rw [hb b4 (by rw [g4]; simp), g4] at f8; cases f8
    have n5 : ¬ id = b8 := fun e => by subst e; rw [hc] at f8; cases f8
    have n6 : ¬ id = b4 := fun e => by subst e; rw [g4] at hbid; cases hbid
    have k3 : s' b3 = some (.cells (encObj o)) := by rw [hb b3 (by rw [g3]; simp), g3]
    have k4 : s' b4 = some (.cells [.sl 6 [] .nil]) := by rw [hb b4 (by rw [g4]; simp), g4]
    have n7 : ¬ b8 = id := fun e => n5 e.symm
    have n8 : ¬ b4 = id := fun e => n6 e.symm
    have p1 : (q : Int) < (m.length : Int) := by omega
    have hml : (m.map encObj).length = m.length := List.length_map _
    rw [hml] at hn ht h0
    have hfit : q * 6 + 6 ≤ cs.length := by
      have := Nat.mul_le_mul_right 6 (show q + 1 ≤ c by omega)
      omega
    have hfit2 : (q * 6 + 6 ≤ cs.length) = True := eq_true hfit
    simp only [sZ, initT, optI, splice, reduceIte, reduceCtorEq, Nat.reduceEqDiff, Nat.reduceAdd, Nat.reduceSub, Nat.reduceMul, Nat.reduceLeDiff, Nat.reduceLT, Int.reduceLT, Int.reduceLE, Int.reduceToNat, Int.reduceEq, Int.cast_ofNat_Int, n2, n3, n4, n5, n6, n7, n8, k3, k4, hc, p1, hml, hfit2, len_encObj, wh_encObj, st_encObj, Int.toNat_natCast]
    have hR6 : ∀ y ∈ R.map encObj, y.length = 6 := fun y hy => by obtain ⟨p, _, rfl⟩ := List.mem_map.1 hy; rfl
    have hRl : (R.map encObj).length = m.length := by
      rw [hRm]
      simp only [List.length_append, List.length_take, List.length_drop, List.length_cons, List.length_nil, hml]
      omega
    have hflat : (splice cs (q * 6) (encObj o)).take ((R.map encObj).length * 6) = flatS (R.map encObj) := by
      have hP : (flatS ((m.map encObj).take q)).length = q * 6 := by
        rw [flatS_length fun y hy => hm' y (List.mem_of_mem_take hy), List.length_take, hml, Nat.min_eq_left (by omega)]
      have hQ : (flatS ((m.map encObj).drop (q + 1))).length = (m.length - (q + 1)) * 6 := by
        rw [flatS_length fun y hy => hm' y (List.mem_of_mem_drop hy), List.length_drop, hml]
      have hV : (flatS [(m.map encObj)[q]]).length = 6 := by
        rw [flatS_length (m := 6) (by simp only [List.mem_singleton, forall_eq]; exact hm' _ (List.getElem_mem hql))]
        rfl
      have hsum : (flatS ((m.map encObj).take q)).length + (flatS [(m.map encObj)[q]]).length + (flatS ((m.map encObj).drop (q + 1))).length = m.length * 6 := by
        rw [hP, hQ, hV]
        omega
      have hsplit : flatS (m.map encObj) = flatS ((m.map encObj).take q) ++ flatS [(m.map encObj)[q]] ++ flatS ((m.map encObj).drop (q + 1)) := by
        rw [← flatS_app, ← flatS_app]
        congr 1
        rw [List.append_assoc]
        conv => lhs; rw [← List.take_append_drop q (m.map encObj), List.drop_eq_getElem_cons hql]
        rfl
      have hW : flatS [encObj o] = encObj o := rfl
      have := set_cells cs _ _ _ (by rw [hsum, ht, hsplit]) (flatS [encObj o]) (by rw [hV, hW]; rfl) (by
        rw [hsum, hcl]
        exact Nat.mul_le_mul_right _ hn)
      rw [hsum, hP, hW] at this
      rw [hRl, this, hRm, flatS_app, flatS_app, hW]
    refine ⟨.tup _ _ rfl fun j x y hx hy => ?_, fun i hi => ?_, KExt.refl _⟩
    · match j, hx, hy with
      | 0, hx, hy =>
        cases hx
        cases hy
        refine .agg _ _ rfl fun j x y hx hy => ?_
        match j, hx, hy with
        | 0, hx, hy =>
          cases hx
          cases hy
          rw [← hRl]
          exact frz_box (cs := splice cs (q * 6) (encObj o)) (c := c) (by show upd (upd (upd s' b8 _) id _) b4 _ id = _; rw [upd_apply, if_neg n6, upd_same]; rfl) (SExt.none gs hbid) hR6 (hst R) (by rw [splice_length _ _ _ (by rw [e6]; exact hfit)]; exact hcl) (by rw [hRl]; exact hn) hflat
        | j + 1, hx, hy => cases hx
      | 1, hx, hy =>
        cases hx
        cases hy
        exact .le (A.le_refl _)
      | j + 2, hx, hy => cases hx
    · have e0 : s0 i ≠ none := by rw [gs i hi]; exact hi
      have e8 : ¬ i = b8 := fun e => by subst e; rw [hb i e0] at f8; exact e0 f8
      have e4 : ¬ i = b4 := fun e => by subst e; exact hi f4.2.2
      have e5 : ¬ i = id := fun e => by subst e; exact e0 hbid
      show upd (upd (upd s' b8 _) id _) b4 _ i = s i
      rw [upd_apply, if_neg e4, upd_apply, if_neg e5, upd_apply, if_neg e8, hb i e0, gs i hi]
end Go.Pv
