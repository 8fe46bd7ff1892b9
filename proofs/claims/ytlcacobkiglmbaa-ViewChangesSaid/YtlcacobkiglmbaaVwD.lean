/- Views: Names, in order. -/
import Derived.Test.YtlcacobkiglmbaaVwC
set_option linter.unusedVariables false
set_option linter.unusedSimpArgs false
set_option maxRecDepth 4000
set_option maxHeartbeats 2000000
namespace Go.Pv
open Go

theorem map_erase {α β : Type} (f : α → β) : ∀ (l : List α) (m : Nat), (l.map f).eraseIdx m = (l.eraseIdx m).map f
  | [], m => by simp
  | x :: l, 0 => by simp
  | x :: l, m + 1 => by
    have := map_erase f l m
    simp [this]
theorem perm_erase {α : Type} : ∀ {l : List α} {m : Nat} {x : α}, l[m]? = some x → List.Perm (x :: l.eraseIdx m) l
  | [], m, x, h => by simp at h
  | y :: l, 0, x, h => by
    simp at h
    subst h
    simp
  | y :: l, m + 1, x, h => by
    simp only [List.getElem?_cons_succ] at h
    simp only [List.eraseIdx_cons_succ]
    exact (List.Perm.swap y x _).trans ((perm_erase h).cons y)
theorem sortB_eq {a b : List ByteArray} (h : List.Perm a b) : sortB a = sortB b := by
  refine List.Perm.eq_of_pairwise (le := fun x y => rawB x ≤ rawB y) (fun x y _ _ h1 h2 => ?_) (sortB_sorted a) (sortB_sorted b) ((sortB_perm a).trans (h.trans (sortB_perm b).symm))
  have : rawB x = rawB y := List.le_antisymm h1 h2
  rw [← ofRaw_rawB x, ← ofRaw_rawB y, this]
theorem flatS_str (l : List ByteArray) : flatS (l.map encStr) = l.map A.str := by
  induction l with
  | nil => rfl
  | cons x l ih =>
    have : flatS ((x :: l).map encStr) = A.str x :: flatS (l.map encStr) := rfl
    rw [this, ih]
    rfl
noncomputable def namesF (m : List Obj) : List ByteArray := sortB ((keysN m).map Prod.fst)
/-- A box of strings, sorted, as what a call returns. -/
theorem frz_strs {s s0 : Hp} {id c : Nat} {cs : List A} (l : List ByteArray) (h1 : s id = some (.cells (splice cs 0 (l.map A.str)))) (h2 : s0 id = none) (h3 : l.length ≤ cs.length) : Frz s s0 (.sb id 0 1 l.length c) (.sl 1 (l.map encStr) .no) := by
  refine .sb id 0 1 l.length c _ (l.map encStr) h1 h2 (by rw [splice_length _ _ _ (by simpa using h3)]; omega) (by simp) fun i x hx => ?_
  rw [List.getElem?_map] at hx
  obtain ⟨y, hy, rfl⟩ := Option.map_eq_some_iff.1 hx
  have hi : i < l.length := (List.getElem?_eq_some_iff.1 hy).1
  have hg : (splice cs 0 (l.map A.str))[i]? = some (.str y) := by
    rw [splice_get _ _ _ (by simpa using h3), if_pos ⟨by omega, by simpa using hi⟩, Nat.sub_zero, List.getElem?_map, hy]
    rfl
  have : ((splice cs 0 (l.map A.str)).drop (0 + i * 1)).take 1 = [.str y] := by
    rw [Nat.zero_add, Nat.mul_one]
    obtain ⟨hlt, he⟩ := List.getElem?_eq_some_iff.1 hg
    rw [List.drop_eq_getElem_cons hlt, he]
    rfl
  rw [this]
  rfl
theorem spec_ViewNames (m : List Obj) (hm : MapFit m) (hl : m.length < 1000000) {s : Hp} {k : Nat → Tk} : Spec prg 42 [.agg (encMap m)] s k (.sl 1 ((namesF m).map encStr) .no) s k := by
  refine spec_tr prg_mixed tr_view_Names (Nat.le_of_ble_eq_true rfl) rfl ?_
  unfold pc_view_Names rs_view_Names
  have hlen : (keysN m).length ≤ m.length := by
    unfold keysN
    split
    · simpa using seenN_le m []
    · simp
  have hob := fun mb mi s k h1 h2 => @spec_objectsN m hm hl mb mi s k h1 h2
  simp only [encMap] at hob
  simp only [sZ, initT, optI, splice, reduceIte, reduceCtorEq, Nat.reduceEqDiff, Nat.reduceAdd, Nat.reduceSub, Nat.reduceMul, Nat.reduceLeDiff, Nat.reduceLT, Int.reduceLT, Int.reduceLE, Int.reduceToNat, Int.reduceEq, Int.cast_ofNat_Int, encMap]
  (with_reducible refine newS_in ?_); intro b1 f1; simp only [upd_none] at f1
  simp only [sZ, initT, optI, splice, reduceIte, reduceCtorEq, Nat.reduceEqDiff, Nat.reduceAdd, Nat.reduceSub, Nat.reduceMul, Nat.reduceLeDiff, Nat.reduceLT, Int.reduceLT, Int.reduceLE, Int.reduceToNat, Int.reduceEq, Int.cast_ofNat_Int, f1]
  refine mkmS_in ?_
  intro i6 f6
  simp only [upd_none] at f6
  simp only [sZ, initT, optI, splice, reduceIte, reduceCtorEq, Nat.reduceEqDiff, Nat.reduceAdd, Nat.reduceSub, Nat.reduceMul, Nat.reduceLeDiff, Nat.reduceLT, Int.reduceLT, Int.reduceLE, Int.reduceToNat, Int.reduceEq, Int.cast_ofNat_Int, f1, f6]
  (with_reducible refine newS_in ?_); intro b3 f3; simp only [upd_none] at f3
  simp only [sZ, initT, optI, splice, reduceIte, reduceCtorEq, Nat.reduceEqDiff, Nat.reduceAdd, Nat.reduceSub, Nat.reduceMul, Nat.reduceLeDiff, Nat.reduceLT, Int.reduceLT, Int.reduceLE, Int.reduceToNat, Int.reduceEq, Int.cast_ofNat_Int, f1, f6, f3]
  refine callS_R (hob b3 i6 _ _ (by simp only [upd_apply, reduceIte]) (by simp only [upd_apply, f3, reduceIte]; rfl)) ?_
  rintro r s' k' ⟨hs', hk'⟩
  rw [hs', hk']
  clear hs' hk' s' k'
  simp only [sZ, initT, optI, splice, reduceIte, reduceCtorEq, Nat.reduceEqDiff, Nat.reduceAdd, Nat.reduceSub, Nat.reduceMul, Nat.reduceLeDiff, Nat.reduceLT, Int.reduceLT, Int.reduceLE, Int.reduceToNat, Int.reduceEq, Int.cast_ofNat_Int, f1, f6, f3]
  refine rng_in ?_
  simp only [sZ, initT, optI, splice, reduceIte, reduceCtorEq, Nat.reduceEqDiff, Nat.reduceAdd, Nat.reduceSub, Nat.reduceMul, Nat.reduceLeDiff, Nat.reduceLT, Int.reduceLT, Int.reduceLE, Int.reduceToNat, Int.reduceEq, Int.cast_ofNat_Int, f1, f6, f3]
  generalize hM : keysN m = M at *
  generalize hB : upd (upd (upd (upd s b1 (some (.cells [.sl 6 (m.map encObj) .no]))) i6 (some (.map []))) b3 (some (.cells [.map i6]))) i6 (some (.map (encM encB M))) = s1
  have hs1 : s1 i6 = some (.map (encM encB M)) := by rw [← hB]; exact upd_same _ _ _
  have hx1 : SExt s (upd s1 i6 none) := by
    rw [← hB]
    intro i hi
    have n1 : ¬ i = i6 := fun e => by subst e; exact hi f6.2
    have n2 : ¬ i = b3 := fun e => by subst e; exact hi f3.2.2
    have n3 : ¬ i = b1 := fun e => by subst e; exact hi f1
    simp only [upd_apply, n1, n2, n3, reduceIte]
  refine rngK_in (α := List ByteArray × A × Hp) i6 (encM encB M) rfl hs1 fun iid hiid => ⟨fun a => [(4, a.2.1), (11, .ptr iid 0)], fun a => a.2.2, fun _ => k,
    fun left a => GrowB (upd s1 i6 none) 1 a.2.2 a.2.1 (a.1.map encStr) ∧ ∃ Ml, left = encM encB Ml ∧ List.Perm (a.1 ++ Ml.map Prod.fst) (M.map Prod.fst), ([], .sl 1 [] .nil, upd s1 i6 none), SExt.refl _, rfl, (by (try simp only [TabLe_cons, TabLe_nil, tab_cons, tab_nil, upd_apply, Nat.reduceEqDiff, reduceIte, and_true]); repeat' (first | exact trivial | exact A.le_refl _ | exact le_strip_no _ _ _ | exact A.le_no _ _ _ | exact A.le_empty _ _ _ | refine And.intro ?_ ?_)), ⟨⟨SExt.refl _, by simp, .inl ⟨rfl, rfl⟩⟩, M, rfl, List.Perm.refl _⟩, ?_⟩
  rintro left ⟨got, v, hp⟩ ⟨hG, Ml, rfl, hperm⟩
  dsimp only at hG hperm ⊢
  have hgl : got.length + Ml.length = M.length := by simpa using hperm.length_eq
  refine ⟨rfl, rfl, fun hleft => ?_, fun q x y hq => ?_⟩
  · have hMl : Ml = [] := by
      cases Ml with
      | nil => rfl
      | cons p l => cases hleft
    subst hMl
    simp only [List.map_nil, List.append_nil] at hperm
    have hN : namesF m = sortB got := by
      unfold namesF
      rw [hM]
      exact sortB_eq hperm.symm
    rw [hN]
    have hv := hG.strip
    simp only [sZ, initT, optI, splice, reduceIte, reduceCtorEq, Nat.reduceEqDiff, Nat.reduceAdd, Nat.reduceSub, Nat.reduceMul, Nat.reduceLeDiff, Nat.reduceLT, Int.reduceLT, Int.reduceLE, Int.reduceToNat, Int.reduceEq, Int.cast_ofNat_Int, hv]
    rcases hG.2.2 with ⟨h0, rfl⟩ | ⟨id, c, cs, rfl, hb, hc, h0, hn, hmx, hcl, ht⟩
    · have hg0 : got = [] := by simpa using h0
      subst hg0
      refine callS_quiet (spec_sort0 1 .nil) ?_
      simp only [sZ, initT, optI, splice, reduceIte, reduceCtorEq, Nat.reduceEqDiff, Nat.reduceAdd, Nat.reduceSub, Nat.reduceMul, Nat.reduceLeDiff, Nat.reduceLT, Int.reduceLT, Int.reduceLE, Int.reduceToNat, Int.reduceEq, Int.cast_ofNat_Int]
      refine OutQ.le (fun i hi => ?_) ?_
      · rw [hG.1 i (by rw [hx1 i hi]; exact hi), hx1 i hi]
      · have : sortB [] = [] := by unfold sortB; simp
        rw [this]
        exact A.le_no _ _ _
    · simp only [List.length_map] at *
      rw [Nat.mul_one] at hcl ht
      refine callS_R (Spec.toR (spec_sort id 0 c cs got hc (by omega) (fun j hj => ?_) (by omega) h0)) ?_
      · have h2 : (cs.take got.length)[j]? = some (.str got[j]) := by
          rw [ht, flatS_str, List.getElem?_map, List.getElem?_eq_getElem hj]
          rfl
        rw [List.getElem?_take_of_lt hj] at h2
        rw [Nat.zero_add]
        exact h2
      · rintro r s' k' ⟨hr', hs', hk'⟩
        rw [hr', hs', hk']
        simp only [sZ, initT, optI, splice, reduceIte, reduceCtorEq, Nat.reduceEqDiff, Nat.reduceAdd, Nat.reduceSub, Nat.reduceMul, Nat.reduceLeDiff, Nat.reduceLT, Int.reduceLT, Int.reduceLE, Int.reduceToNat, Int.reduceEq, Int.cast_ofNat_Int]
        refine ⟨?_, fun i hi => ?_, KExt.refl _⟩
        · rw [← sortB_length got]
          refine frz_strs (cs := cs) (sortB got) (by simp [upd, splice]) (SExt.none hx1 hb) ?_
          rw [sortB_length]
          omega
        · have n : ¬ i = id := fun e => by subst e; rw [hx1 i hi] at hb; exact hi hb
          show upd hp id _ i = s i
          rw [upd_apply, if_neg n, hG.1 i (by rw [hx1 i hi]; exact hi), hx1 i hi]
  · obtain ⟨p, hp1, hp2⟩ : ∃ p, Ml[q]? = some p ∧ x = .str p.1 := by
      simp only [encM, List.getElem?_map] at hq
      obtain ⟨p, h1, h2⟩ := Option.map_eq_some_iff.1 hq
      cases h2
      exact ⟨p, h1, rfl⟩
    subst hp2
    have hv := hG.strip
    have hlt : got.length < M.length := by
      have := (List.getElem?_eq_some_iff.1 hp1).1
      omega
    simp only [sZ, initT, optI, splice, reduceIte, reduceCtorEq, Nat.reduceEqDiff, Nat.reduceAdd, Nat.reduceSub, Nat.reduceMul, Nat.reduceLeDiff, Nat.reduceLT, Int.reduceLT, Int.reduceLE, Int.reduceToNat, Int.reduceEq, Int.cast_ofNat_Int, hv]
    refine grow_in (ys := [[.str p.1]]) hG (by simp) (by simp) (by simp; omega) fun hp' v' hG' => ?_
    have hv' := hG'.strip
    simp only [sZ, initT, optI, splice, reduceIte, reduceCtorEq, Nat.reduceEqDiff, Nat.reduceAdd, Nat.reduceSub, Nat.reduceMul, Nat.reduceLeDiff, Nat.reduceLT, Int.reduceLT, Int.reduceLE, Int.reduceToNat, Int.reduceEq, Int.cast_ofNat_Int, hv']
    refine next_R (got ++ [p.1], v', hp') (SExt.refl _) rfl (by (try simp only [TabLe_cons, TabLe_nil, tab_cons, tab_nil, upd_apply, Nat.reduceEqDiff, reduceIte, and_true]); repeat' (first | exact trivial | exact A.le_refl _ | exact le_strip_no _ _ _ | exact A.le_no _ _ _ | exact A.le_empty _ _ _ | refine And.intro ?_ ?_)) ⟨?_, Ml.eraseIdx q, ?_, ?_⟩
    · rw [List.map_append]
      exact hG'
    · unfold encM
      rw [map_erase]
    · refine List.Perm.trans ?_ hperm
      rw [List.append_assoc]
      refine List.Perm.append_left _ ?_
      show List.Perm (p.1 :: (Ml.eraseIdx q).map Prod.fst) (Ml.map Prod.fst)
      exact (perm_erase hp1).map Prod.fst
end Go.Pv
